/- Plain facts on layer 7: the law on All. -/
import Derived.Test.YtjjinpgjfabemaaDoorPl07t
import Derived.Test.YtjjinpgjfabemaaDoorPl07d
namespace Go.Proofs.YtjjinpgjfabemaaDoor
open Go.Lx

set_option maxRecDepth 100000 in
theorem awake7 : M.law07_awake = some true := by decide +kernel
def elemsI (v : Vec 4) : List Int := (elems v).map fun (n : Nat) => (n : Int)
theorem elems_len256 (v : Vec 4) : (elems v).length ≤ 256 := by
  have := List.length_filter_le (mem v) (List.range 256)
  rw [List.length_range] at this
  exact this
theorem elems_size (v : Vec 4) : (elems v).length = size v := by
  unfold elems size cnt
  rw [List.countP_eq_length_filter]
theorem elems_sorted (v : Vec 4) : (elems v).Pairwise (· < ·) := List.Pairwise.filter _ List.pairwise_lt_range
theorem elements_ok {v : Vec 4} (hv : W4 v) : M.law07_elements v = some (elemsI v, true) := by
  unfold M.law07_elements
  refine bind_of (x := ()) rfl ?_
  rw [All_ok hv]
  have key : ∀ (b : Int → List Int → Option (Step (List Int) (List Int))) (_ : ∀ x a, b x a = bif decide (300 ≤ (a.length : Int)) then some (.stop a) else (appM 1 a [x]).bind fun y => some (.next y))
      (l : List Nat) (a : List Int), a.length + l.length ≤ 256 → runY (stepOn b) l (.next a) = some (true, .next (a ++ l.map fun (n : Nat) => (n : Int))) := by
    intro b hb l
    induction l with
    | nil => intro a _; simp [runY]
    | cons n l ih =>
      intro a ha
      simp only [List.length_cons] at ha
      have e : stepOn b (n : Int) (.next a) = some (true, .next (a ++ [(n : Int)])) := by
        have : b (n : Int) a = some (.next (a ++ [(n : Int)])) := by
          rw [hb, dec_f (show ¬ 300 ≤ (a.length : Int) by omega)]
          exact bind_of (appM_ok (by simp only [List.length_singleton]; omega)) rfl
        simp only [stepOn, this, Option.map_some]
      unfold runY
      rw [e]
      refine (ih (a ++ [(n : Int)]) (by simp only [List.length_append, List.length_singleton]; omega)).trans ?_
      simp
  have h := key _ (fun _ _ => rfl) (elems v) [] (by have := elems_len256 v; simpa using this)
  rw [List.nil_append] at h
  have e : (((runY _ (elems v) (Step.next ([] : List Int) : Step (List Int) (List Int))).bind fun r => some r.2).bind fun rx9 => match rx9 with
      | .next xv7 => some (.next xv7)
      | .stop xv9 => (some (.stop ([], false)) : Option (Step (List Int) (List Int × Bool)))) = some (.next (elemsI v)) := bind_of (bind_of h rfl) rfl
  exact bindStep_next e rfl
theorem law_all (x0 : Vec 4) (ok0 : ∀ x ∈ x0.1, IOk .u64 x) (x1 : Int) (ok1 : (IOk .u8) x1) : M.law07_BytesetAll x0 x1 = some true := by
  have hv := w4_of ok0
  obtain ⟨s, rfl, hs⟩ := iok_u8 ok1
  have hn := elems_len256 x0
  have hlI : (elemsI x0).length = (elems x0).length := by simp [elemsI]
  have hget : ∀ i (h : i < (elems x0).length), idxL (elemsI x0) (i : Int) = some ((elems x0)[i] : Int) := by
    intro i h
    rw [idxL_nat (by rw [hlI]; exact h)]
    simp [elemsI]
  refine Is.eq ?_
  unfold M.law07_BytesetAll
  refine Is.bnq (elements_ok hv) ?_
  refine Is.bnq (x := false) ?_ (Is.cf rfl ?_)
  · refine bind_of (Len_eq hv) ?_
    rw [bne_f (show ((elemsI x0).length : Int) = (size x0 : Nat) by rw [hlI, elems_size])]
  refine Is.bs (P := fun _ : Unit => True) (Q := fun r => r = true) ?_ fun _ _ => ?_
  · refine Is.upto (fun i (st : Int) => st = (i : Int)) (elems x0).length (by omega) rfl ?_ ?_
    · rintro i _ hi rfl
      have hm := List.mem_filter.1 (List.getElem_mem hi)
      refine Is.dt (by rw [hlI]; omega) ?_
      refine Is.bnq (x := false) ?_ (Is.cf rfl (Is.bnq (chk_succ (by omega)) (Is.next rfl)))
      refine bind_of (hget i hi) (bind_of (has_eq' hv (List.mem_range.1 hm.1)) ?_)
      rw [hm.2]
      cases i with
      | zero => rfl
      | succ i =>
        have e1 : chk .i64 (((i + 1 : Nat) : Int) - 1) = some (i : Int) := by rw [chk_i64 (by omega) (by omega)]; congr 1; omega
        rw [dec_t (show (0 : Int) < ((i + 1 : Nat) : Int) by omega)]
        refine bind_of e1 (bind_of (hget i (by omega)) ?_)
        have := List.pairwise_iff_getElem.1 (elems_sorted x0) i (i + 1) (by omega) hi (by omega)
        rw [dec_f (by omega)]
    · rintro _ rfl
      exact Is.df (by rw [hlI]; omega) (Is.stop trivial)
  have key : ∀ (b : Int → Int → Option (Step Int (Int ⊕ Int))) (_ : ∀ x k, b x k = (bif decide (((elemsI x0).length : Int) ≤ k) then some true else (idxL (elemsI x0) k).bind fun e => some (x != e)).bind fun c => bif c then some (.stop (.inr k)) else
        (chk .i64 (k + 1)).bind fun t => bif decide (IntKind.i64.wrap (s : Int) < t) then some (.stop (.inl t)) else some (.next t)) (m k : Nat), k + m = (elems x0).length → k ≤ s →
      ∃ c z, runY (stepOn b) ((elems x0).drop k) (.next (k : Int)) = some (c, z) ∧ (z = .next ((min (elems x0).length (s + 1) : Nat) : Int) ∨ z = .stop (.inl ((min (elems x0).length (s + 1) : Nat) : Int))) := by
    intro b hb m
    induction m with
    | zero =>
      intro k hk hks
      rw [List.drop_eq_nil_of_le (by omega)]
      refine ⟨true, _, rfl, .inl ?_⟩
      congr 1
      omega
    | succ m ih =>
      intro k hk hks
      have hkl : k < (elems x0).length := by omega
      rw [List.drop_eq_getElem_cons hkl]
      have hbk : b ((elems x0)[k] : Int) (k : Int) = bif decide ((s : Int) < ((k + 1 : Nat) : Int)) then some (.stop (.inl ((k + 1 : Nat) : Int))) else some (.next ((k + 1 : Nat) : Int)) := by
        rw [hb, dec_f (show ¬ ((elemsI x0).length : Int) ≤ (k : Int) by rw [hlI]; omega), wrap_i64 (by omega) (by omega)]
        exact bind_of (x := false) (bind_of (hget k hkl) (by simp)) (bind_of (chk_succ (by omega)) rfl)
      by_cases hlt : s < k + 1
      · rw [dec_t (by omega)] at hbk
        refine ⟨false, .stop (.inl ((k + 1 : Nat) : Int)), ?_, .inr ?_⟩
        · unfold runY
          simp only [stepOn, hbk, cond_true, Option.map_some, Option.bind_some, cond_false]
        · congr 2
          omega
      · rw [dec_f (by omega)] at hbk
        obtain ⟨c, z, h1, h2⟩ := ih (k + 1) (by omega) (by omega)
        refine ⟨c, z, ?_, h2⟩
        unfold runY
        simp only [stepOn, hbk, cond_false, Option.map_some, Option.bind_some, cond_true]
        exact h1
  refine Is.bs (P := fun r : Int => r = ((min (elems x0).length (s + 1) : Nat) : Int)) (Q := fun r => r = true) ?_ fun r hr => ?_
  · refine Is.bnq (x := ()) rfl ?_
    rw [All_ok hv]
    obtain ⟨c, z, h1, h2⟩ := key _ (fun _ _ => rfl) (elems x0).length 0 (by omega) (by omega)
    rw [List.drop_zero] at h1
    rcases h2 with rfl | rfl
    · exact Is.bnq (bind_of h1 rfl) (Is.next rfl)
    · exact Is.bnq (bind_of h1 rfl) (Is.next rfl)
  · subst hr
    refine Is.bnq (x := true) ?_ (Is.pure rfl)
    refine bind_of awake7 ?_
    rw [wrap_i64 (by omega) (by omega), hlI]
    refine bind_of (chk_succ (by omega)) (congrArg some (beq_t ?_))
    unfold min2
    split <;> omega
end Go.Proofs.YtjjinpgjfabemaaDoor
