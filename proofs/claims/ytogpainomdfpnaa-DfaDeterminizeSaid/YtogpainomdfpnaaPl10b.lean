/- Plain facts on layer 10: runs; the law DfaRun. -/
import Derived.Test.YtogpainomdfpnaaPl10a
import Derived.Test.YtogpainomdfpnaaPl10aw
import Derived.Test.YtogpainomdfpnaaTyp
set_option linter.unusedVariables false
namespace Go.Proofs.Ytogpainomdfpnaa
open Go.Lx

/-- The successor of a state for a byte, and the number that a state accepts. -/
def stepN (d : T_DFA) (s : Int) (b : Nat) : Int := if s < 0 then -1 else (d.Next.getD s.toNat []).getD (d.Class.getD b 0).toNat 0
def accN (d : T_DFA) (s : Int) : Int := if s < 0 then -1 else d.Accept.getD s.toNat 0
def inR (d : T_DFA) (s : Int) : Prop := -1 ≤ s ∧ s < (d.Next.length : Int)
section
variable {d : T_DFA} (h : Ok d)
include h
theorem cls_lt {b : Nat} (hb : b < 256) : 0 ≤ d.Class.getD b 0 ∧ d.Class.getD b 0 < (cols d : Int) := h.inc _ (getD_mem (by rw [h.cls]; exact hb))
theorem row_get {s : Nat} (hs : s < d.Next.length) : (d.Next.getD s []).length = cols d ∧ ∀ t ∈ d.Next.getD s [], inR d t := h.row _ (getD_mem hs)
theorem stepN_in {s : Int} (hs : inR d s) {b : Nat} (hb : b < 256) : inR d (stepN d s b) := by
  unfold stepN
  have hp := h.pos
  split
  · exact ⟨by omega, by omega⟩
  · have h1 := row_get h (s := s.toNat) (by have := hs.2; omega)
    have h2 := cls_lt h hb
    exact h1.2 _ (getD_mem (by omega))
theorem step_eq {s : Int} (hs : inR d s) {b : Nat} (hb : b < 256) : M.dfa_step d s (b : Int) = some (stepN d s b) := by
  refine Is.eq ?_
  unfold M.dfa_step
  have h0 := hs.2
  refine Is.dcd (fun h1 => Is.pure (by unfold stepN; rw [if_pos h1])) fun h1 => ?_
  have h2 := row_get h (s := s.toNat) (by omega)
  have h3 := cls_lt h hb
  refine Is.bnq (idxL_int (d := []) (by omega) (by omega)) (Is.bnq (idxL_int (d := 0) (by omega) (by rw [h.cls]; omega)) (Is.bnq (idxL_int (d := 0) (by simpa using h3.1) ?_) (Is.pure ?_)))
  · rw [h2.1]; simpa using h3.2
  · unfold stepN; rw [if_neg h1]; rfl
theorem result_eq {s : Int} (hs : inR d s) : M.dfa_result d s = some (accN d s) := by
  refine Is.eq ?_
  unfold M.dfa_result
  have h0 := hs.2
  have ha := h.acc
  refine Is.dcd (fun h1 => Is.pure (by unfold accN; rw [if_pos h1])) fun h1 => ?_
  exact Is.bnq (idxL_int (d := 0) (by omega) (by omega)) (Is.pure (by unfold accN; rw [if_neg h1]))
def walkN (d : T_DFA) (s : Int) (w : Str) : Int := w.foldl (fun q c => stepN d q c.toNat) s
theorem zero_in : inR d 0 := ⟨by omega, by have := h.pos; omega⟩
theorem walkN_in {s : Int} (hs : inR d s) (w : Str) : inR d (walkN d s w) := by
  unfold walkN
  induction w generalizing s with
  | nil => exact hs
  | cons c w ih => exact ih (stepN_in h hs c.toNat_lt)
theorem Run_eq {w : Str} (hw : w.length ≤ 9223372036854775807) : M.dfa_Run d w = some (accN d (walkN d 0 w)) := by
  refine Is.eq ?_
  unfold M.dfa_Run
  refine Is.bnd (P := fun q => q = walkN d 0 w) (Is.upto (fun i st => st = (walkN d 0 (w.take i), (i : Int))) w.length hw rfl ?_ ?_) ?_
  · rintro i _ hi rfl
    refine Is.dt (by omega) (Is.bnq (idxS_nat hi) (Is.bnq (step_eq h (walkN_in h (zero_in h) _) (UInt8.toNat_lt _)) (Is.bnq (chk_succ (by omega)) (Is.next ?_))))
    unfold walkN
    rw [List.take_succ_eq_append_getElem hi, List.foldl_append]
    rfl
  · rintro _ rfl
    exact Is.df (by simp) (Is.stop (by simp))
  · rintro _ rfl
    exact Is.bnq (result_eq h (walkN_in h (zero_in h) _)) (Is.pure rfl)
end
end Go.Proofs.Ytogpainomdfpnaa
