/- Plain facts on layer 8: the text of a set. -/
import Derived.Test.YtffienmbeifioaaDoorPl08h
import Derived.Test.YtffienmbeifioaaDoorPl07t
namespace Go.Proofs.YtffienmbeifioaaDoor
open Go.Lx

/-! ### bytes of a set -/
theorem run_app : ∀ (l : List Nat) (xs : List Int), xs.length + l.length ≤ 1000000 →
    runY (goOn (fun (x : Int) (xv6 : (List Int)) => (appM 1 xv6 [x]).bind fun y6 => some y6)) l xs = some (true, xs ++ l.map fun (n : Nat) => (n : Int)) := by
  intro l
  induction l with
  | nil => intro xs _; simp [runY]
  | cons b l ih =>
    intro xs h
    simp only [List.length_cons] at h
    have e : appM 1 xs [(b : Int)] = some (xs ++ [(b : Int)]) := appM_ok (by simp only [List.length_singleton]; omega)
    have e2 : goOn (fun (x : Int) (xv6 : (List Int)) => (appM 1 xv6 [x]).bind fun y6 => some y6) (b : Int) xs = some (true, xs ++ [(b : Int)]) := by unfold goOn; simp only [e, Option.bind_some, Option.map_some]
    rw [runY, e2, Option.bind_some, cond_true, ih (xs ++ [(b : Int)]) (by rw [List.length_append, List.length_singleton]; omega)]
    simp
theorem elems_len (v : Vec 4) : (elems v).length ≤ 256 := Nat.le_trans (List.length_filter_le _ _) (by simp)
theorem elems_lt {v : Vec 4} {b : Nat} (h : b ∈ elems v) : b < 256 ∧ mem v b = true := by
  have := List.mem_filter.1 h
  exact ⟨List.mem_range.1 this.1, this.2⟩
theorem bytes_ok {v : Vec 4} (hv : W4 v) : M.regex_bytes v = some ((elems v).map fun (n : Nat) => (n : Int)) := by
  unfold M.regex_bytes
  have hl := elems_len v
  have h := All_ok (y := goOn (fun (x : Int) (xv6 : (List Int)) => (appM 1 xv6 [x]).bind fun y6 => some y6)) hv ([] : List Int)
  rw [run_app _ _ (by simp only [List.length_nil]; omega)] at h
  rw [h]
  simp [M.byteset_All]

/-! ### chars -/
def wch (br : Bool) (b : Nat) : Str := bif b == 10 then [92, 110] else bif b == 9 then [92, 116] else bif !(pl br b) || (br && b == 94) then [92, UInt8.ofNat b] else [UInt8.ofNat b]
def wrt (b : Nat) : Bool := decide (32 ≤ b ∧ b ≤ 126) || b == 9 || b == 10
theorem char_out : ∀ b : Nat, b < 256 → wrt b = true → M.regex_char (b : Int) [40, 41, 91, 93, 124, 42, 43, 63, 46, 92] = some (wch false b) := by decide +kernel
theorem char_in : ∀ b : Nat, b < 256 → wrt b = true → M.regex_char (b : Int) [93, 92, 45, 94] = some (wch true b) := by decide +kernel
theorem written_ok : ∀ br, ∀ b : Nat, b < 256 → M.ref08_written (b : Int) br = some (wch br b) := by decide +kernel
theorem writable_ok : ∀ b : Nat, b < 256 → M.regex_writable (b : Int) = some (wrt b) := by decide +kernel
theorem wrt_le {b : Nat} (h : wrt b = true) : b ≤ 126 := by
  simp only [wrt, Bool.or_eq_true, decide_eq_true_eq, beq_iff_eq] at h
  omega
theorem wch_len (br : Bool) (b : Nat) : (wch br b).length ≤ 2 := by
  unfold wch
  cases b == 10
  · cases b == 9
    · cases (!(pl br b) || (br && b == 94)) <;> simp
    · simp
  · simp

/-! ### elements -/
def runLen : Nat → List Nat → Nat
  | _, [] => 0
  | b, c :: l => if c = b + 1 then runLen c l + 1 else 0
theorem runLen_le (l : List Nat) : ∀ b, runLen b l ≤ l.length := by
  induction l with
  | nil => intro b; simp [runLen]
  | cons c l ih =>
    intro b
    unfold runLen
    split
    · have := ih c; simp only [List.length_cons]; omega
    · omega
def run (b : Nat) (l : List Nat) : Nat := if 32 ≤ b then runLen b l else 0
def txt (l : List Nat) : Str := match l with
  | [] => []
  | b :: l => if 2 ≤ run b l then wch true b ++ (45 :: (wch true (b + run b l) ++ txt (l.drop (run b l)))) else wch true b ++ txt l
termination_by l.length
decreasing_by
  · simp only [List.length_drop, List.length_cons]; omega
  · simp only [List.length_cons]; omega
theorem txt_nil : txt [] = [] := by rw [txt]
theorem txt_cons (b : Nat) (l : List Nat) : txt (b :: l) = if 2 ≤ run b l then wch true b ++ (45 :: (wch true (b + run b l) ++ txt (l.drop (run b l)))) else wch true b ++ txt l := by rw [txt]
theorem txt_len : ∀ n (l : List Nat), l.length ≤ n → (txt l).length ≤ 5 * l.length := by
  intro n
  induction n with
  | zero =>
    intro l h
    rw [List.eq_nil_of_length_eq_zero (by omega : l.length = 0), txt_nil]; simp
  | succ n ih =>
    intro l h
    cases l with
    | nil => rw [txt_nil]; simp
    | cons b l =>
      simp only [List.length_cons] at h ⊢
      rw [txt_cons]
      have h1 := wch_len true b
      have h2 := wch_len true (b + run b l)
      split
      · have := ih (l.drop (run b l)) (by rw [List.length_drop]; omega)
        simp only [List.length_append, List.length_cons, List.length_drop] at this ⊢
        omega
      · have := ih l (by omega)
        simp only [List.length_append]
        omega
/-- The members from b on. -/
def frm (v : Vec 4) (b : Nat) : List Nat := (elems v).filter (fun c => decide (b ≤ c))
theorem frm_zero (v : Vec 4) : frm v 0 = elems v := by unfold frm; rw [List.filter_eq_self.2]; simp
theorem frm_end (v : Vec 4) : frm v 256 = [] := List.filter_eq_nil_iff.2 fun c hc => by have := (elems_lt hc).1; simp; omega
theorem frm_step {v : Vec 4} {b : Nat} (hb : b < 256) : frm v b = if mem v b then b :: frm v (b + 1) else frm v (b + 1) := by
  have h1 : ∀ j, (fun c => mem v c && decide (j ≤ c)) = fun c => (mem v c && decide (j ≤ c)) := fun _ => rfl
  have hf : ∀ j, frm v j = (List.range 256).filter (fun c => mem v c && decide (j ≤ c)) := by
    intro j; unfold frm elems; rw [List.filter_filter]
    exact List.filter_congr fun c _ => Bool.and_comm _ _
  rw [hf b, hf (b + 1)]
  split
  · rename_i h
    rw [filter_first hb (by rw [h]; simp) (fun j hj => by rw [dec_f (by omega : ¬ b ≤ j)]; simp)]
    congr 1
    refine List.filter_congr fun c _ => ?_
    rw [Bool.and_assoc]
    congr 1
    rw [← Bool.decide_and]
    exact decide_eq_decide.2 (by omega)
  · rename_i h
    refine List.filter_congr fun c _ => ?_
    by_cases e : c = b
    · subst e; simp [h]
    · congr 1
      exact decide_eq_decide.2 (by omega)
theorem runLen_frm {v : Vec 4} {b : Nat} (hb : b + 1 < 256) : runLen b (frm v (b + 1)) = if mem v (b + 1) then runLen (b + 1) (frm v (b + 2)) + 1 else 0 := by
  rw [frm_step hb]
  split
  · rw [runLen, if_pos rfl]
  · have hge : ∀ c ∈ frm v (b + 1 + 1), b + 2 ≤ c := fun c hc => by have := (List.mem_filter.1 hc).2; simpa using this
    cases hl : frm v (b + 1 + 1) with
    | nil => rfl
    | cons c l =>
      have := hge c (by rw [hl]; simp)
      rw [runLen, if_neg (by omega)]
theorem drop_frm {v : Vec 4} : ∀ (r b : Nat), r = runLen b (frm v (b + 1)) → b + 1 ≤ 256 → (frm v (b + 1)).drop r = frm v (b + r + 1) ∧ b + r < 256 := by
  intro r
  induction r with
  | zero => intro b _ hb; exact ⟨rfl, by omega⟩
  | succ r ih =>
    intro b h hb
    by_cases hb2 : b + 1 < 256
    · rw [runLen_frm hb2] at h
      split at h
      · rename_i hm
        have := ih (b + 1) (Nat.succ.inj h) (by omega)
        rw [frm_step hb2, if_pos hm, List.drop_succ_cons, this.1]
        exact ⟨by congr 1; omega, by omega⟩
      · omega
    · have e : b = 255 := by omega
      subst e
      rw [frm_end] at h
      simp [runLen] at h
end Go.Proofs.YtffienmbeifioaaDoor
