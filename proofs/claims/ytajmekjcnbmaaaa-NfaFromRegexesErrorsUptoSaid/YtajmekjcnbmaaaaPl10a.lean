/- Plain facts on layer 10: valid automata, runs. -/
import Derived.Test.YtajmekjcnbmaaaaMod
import Derived.Test.YtajmekjcnbmaaaaPlLoop
namespace Go.Proofs.Ytajmekjcnbmaaaa
open Go.Lx

/-- A search through a list. -/
theorem index_is {s : List Int} {f : Int → Option Bool} {p : Int → Bool} (hf : ∀ x ∈ s, f x = some (p x)) (hl : s.length ≤ 9223372036854775807) :
    Is (M.slices_IndexFunc_int_int s f) (fun r => decide (0 ≤ r) = s.any p) := by
  unfold M.slices_IndexFunc_int_int
  refine Is.bs (P := fun _ => s.any p = false) (Is.upto (fun i st => st = (i : Int) ∧ ∀ x ∈ s.take i, p x = false) s.length hl ⟨rfl, by simp⟩ ?_ ?_) ?_
  · rintro i _ hi ⟨rfl, hno⟩
    refine Is.dt (by omega) (Is.bnq (idxL_nat hi) (Is.bnq (hf _ (List.getElem_mem hi)) (Is.cnd (fun hp => ?_) (fun hp => ?_))))
    · exact Is.stop (show decide _ = _ by rw [List.any_eq_true.2 ⟨_, List.getElem_mem hi, hp⟩]; simp)
    · refine Is.bnq (chk_succ (by omega)) (Is.next ⟨rfl, fun x hx => ?_⟩)
      rw [List.take_succ_eq_append_getElem hi, List.mem_append] at hx
      rcases hx with hx | hx
      · exact hno x hx
      · rw [List.mem_singleton.1 hx]; exact hp
  · rintro _ ⟨rfl, hno⟩
    refine Is.df (by omega) (Is.stop ?_)
    rw [List.take_length] at hno
    exact List.any_eq_false.2 fun x hx => by simp [hno x hx]
  · intro _ h
    exact Is.pure (by rw [h]; rfl)
theorem contains_eq {s : List Int} {f : Int → Option Bool} {p : Int → Bool} (hf : ∀ x ∈ s, f x = some (p x)) (hl : s.length ≤ 9223372036854775807) : M.slices_ContainsFunc_int_int s f = some (s.any p) := by
  obtain ⟨r, hr, h⟩ := index_is hf hl
  unfold M.slices_ContainsFunc_int_int
  rw [hr, ← h]; rfl
theorem mlen (l : Nat) (h : l ≤ maxLen) : l ≤ 9223372036854775807 := by simpa [maxLen] using h
theorem any_f {l : List Int} {a b : Int} (h : ∀ c ∈ l, a ≤ c ∧ c < b) : (l.any fun x => decide (x < a) || decide (b - 1 < x)) = false := by
  refine List.any_eq_false.2 fun c hc => ?_
  have := h c hc
  simp only [Bool.or_eq_true, decide_eq_true_eq]; omega
theorem any_t {l : List Int} {a b : Int} (h : ¬ ∀ c ∈ l, a ≤ c ∧ c < b) : (l.any fun x => decide (x < a) || decide (b - 1 < x)) = true := by
  obtain ⟨c, hc, h⟩ : ∃ c ∈ l, ¬ (a ≤ c ∧ c < b) := Classical.byContradiction fun hn => h fun c hc => Classical.byContradiction fun h => hn ⟨c, hc, h⟩
  refine List.any_eq_true.2 ⟨c, hc, ?_⟩
  simp only [Bool.or_eq_true, decide_eq_true_eq]; omega
end Go.Proofs.Ytajmekjcnbmaaaa
