/- Plain facts on layer 8: the program's text of a set is the reference's. -/
import Derived.Test.YtffienmbeifioaaDoorPl08k
namespace Go.Proofs.YtffienmbeifioaaDoor
open Go.Lx

def toI (l : List Nat) : List Int := l.map fun (n : Nat) => (n : Int)
theorem toI_len (l : List Nat) : (toI l).length = l.length := by simp [toI]
theorem idx_toI {l : List Nat} {i : Nat} (h : i < l.length) : idxL (toI l) (i : Int) = some ((l[i] : Nat) : Int) := by
  rw [idxL_nat (by rw [toI_len]; exact h)]
  simp [toI]
theorem end_loop {ρ : Type} {l : List Nat} (hl : l.length ≤ 256) (hW : ∀ b ∈ l, b ≤ 126) {i : Nat} (hi : i < l.length) (h32 : 32 ≤ l[i]) {body : Int → Option (Step Int ρ)} {X : Int → ρ}
    (hb : ∀ x, body x = ((bif decide (x < ((toI l).length : Int)) then (idxL (toI l) (i : Int)).bind fun e238 => bif decide (32 ≤ e238) then (idxL (toI l) x).bind fun e239 => (chk .i64 (x - 1)).bind fun t171 => (idxL (toI l) t171).bind fun e240 => some (e239 == (IntKind.u8.wrap (e240 + 1)))
      else some false else some false).bind fun c => bif c then (chk .i64 (x + 1)).bind fun t => some (.next t) else some (.stop (X x)))) :
    ∀ (r x k c : Nat), 1 ≤ x → x ≤ l.length → l[x - 1]? = some c → r = runLen c (l.drop x) → r < k → loopM body k (x : Int) = some (X ((x + r : Nat) : Int)) := by
  intro r
  induction r with
  | zero =>
    intro x k c h1 hx hc hr hk
    obtain ⟨k, rfl⟩ : ∃ k', k = k' + 1 := ⟨k - 1, by omega⟩
    refine loopM_stop ?_
    rw [hb]
    refine bind_of (x := false) ?_ rfl
    by_cases h : x < l.length
    · have hd : l.drop x = l[x] :: l.drop (x + 1) := (List.getElem_cons_drop h).symm
      rw [hd, runLen] at hr
      have hx1 : x - 1 < l.length := by omega
      have hc' : l[x - 1] = c := by rw [List.getElem?_eq_getElem hx1] at hc; exact Option.some.inj hc
      have hc126 := hW _ (List.getElem_mem hx1)
      refine cnd_t (dec_t (by rw [toI_len]; omega)) (bind_of (idx_toI hi) (cnd_t (dec_t (by omega)) (bind_of (idx_toI h) (bind_of (x := ((x - 1 : Nat) : Int)) (by rw [chk_i64 (by omega) (by omega)]; congr 1; omega) (bind_of (idx_toI hx1) ?_)))))
      rw [show IntKind.u8.wrap (((l[x - 1] : Nat) : Int) + 1) = ((l[x - 1] + 1 : Nat) : Int) from wrap_u8 (by omega) (by omega)]
      split at hr
      · omega
      · rename_i hne
        exact congrArg some (beq_f (by omega))
    · exact cnd_f (dec_f (by rw [toI_len]; omega)) rfl
  | succ r ih =>
    intro x k c h1 hx hc hr hk
    obtain ⟨k, rfl⟩ : ∃ k', k = k' + 1 := ⟨k - 1, by omega⟩
    have h : x < l.length := by
      refine Nat.lt_of_not_le fun h => ?_
      rw [List.drop_eq_nil_of_le h] at hr
      simp [runLen] at hr
    have hd : l.drop x = l[x] :: l.drop (x + 1) := (List.getElem_cons_drop h).symm
    rw [hd, runLen] at hr
    have hx1 : x - 1 < l.length := by omega
    have hc' : l[x - 1] = c := by rw [List.getElem?_eq_getElem hx1] at hc; exact Option.some.inj hc
    have hc126 := hW _ (List.getElem_mem hx1)
    split at hr
    · rename_i heq
      have hstep : body (x : Int) = some (.next ((x + 1 : Nat) : Int)) := by
        rw [hb]
        refine bind_of (x := true) ?_ (bind_of (chk_succ (by omega)) rfl)
        refine cnd_t (dec_t (by rw [toI_len]; omega)) (bind_of (idx_toI hi) (cnd_t (dec_t (by omega)) (bind_of (idx_toI h) (bind_of (x := ((x - 1 : Nat) : Int)) (by rw [chk_i64 (by omega) (by omega)]; congr 1; omega) (bind_of (idx_toI hx1) ?_)))))
        rw [show IntKind.u8.wrap (((l[x - 1] : Nat) : Int) + 1) = ((l[x - 1] + 1 : Nat) : Int) from wrap_u8 (by omega) (by omega)]
        exact congrArg some (beq_t (by omega))
      rw [loopM_next hstep, ih (x + 1) k l[x] (by omega) (by omega) (by rw [Nat.add_sub_cancel, List.getElem?_eq_getElem h]) (Nat.succ.inj hr) (by omega)]
      congr 3
      omega
    · omega
theorem run_get : ∀ (r : Nat) (b : Nat) (l : List Nat), r < runLen b l → l[r]? = some (b + r + 1) := by
  intro r
  induction r with
  | zero =>
    intro b l h
    cases l with
    | nil => simp [runLen] at h
    | cons c l =>
      unfold runLen at h
      split at h
      · rename_i e; simp [e]
      · omega
  | succ r ih =>
    intro b l h
    cases l with
    | nil => simp [runLen] at h
    | cons c l =>
      unfold runLen at h
      split at h
      · rename_i e
        have := ih c l (by omega)
        rw [List.getElem?_cons_succ, this, e]
        congr 1; omega
      · omega
theorem text_loop {l : List Nat} (hl : l.length ≤ 256) (hW : ∀ b ∈ l, wrt b = true ∧ b < 256) {pre : Str} (hp : pre.length ≤ 2) {body : Str × Int → Option (Step (Str × Int) Str)}
    (hb : ∀ (xv41 : Str) (xv42 : Int), body (xv41, xv42) =
     bif (decide (xv42 < ((toI l).length : Int))) then
      (chk .i64 (xv42 + 1)).bind fun t147 =>
      (
       loopM (fun (t165 : Int) =>
        (
         bif (decide (t165 < ((toI l).length : Int))) then
          (idxL (toI l) xv42).bind fun e238 =>
          bif (decide (32 ≤ e238)) then
           (idxL (toI l) t165).bind fun e239 =>
           (chk .i64 (t165 - 1)).bind fun t171 =>
           (idxL (toI l) t171).bind fun e240 =>
           some (e239 == (IntKind.u8.wrap (e240 + 1)))
          else
           some false
         else
          some false).bind fun (xv56 : Bool) =>
        bif xv56 then
         (chk .i64 (t165 + 1)).bind fun t172 =>
         some (.next t172)
        else
         some (Step.stop t165)) fuel t147).bind fun (t160 : Int) =>
      (chk .i64 (t160 - xv42)).bind fun t173 =>
      bif (decide (3 ≤ t173)) then
       (idxL (toI l) xv42).bind fun e241 =>
       (chk .i64 (t160 - 1)).bind fun t174 =>
       (idxL (toI l) t174).bind fun e242 =>
       (M.regex_char e241 [93, 92, 45, 94]).bind fun rv41 =>
       (catS rv41 [45]).bind fun s21 =>
       (M.regex_char e242 [93, 92, 45, 94]).bind fun rv42 =>
       (catS s21 rv42).bind fun s22 =>
       (catS xv41 s22).bind fun s23 =>
       some (.next (s23, t160))
      else
       (idxL (toI l) xv42).bind fun e243 =>
       (M.regex_char e243 [93, 92, 45, 94]).bind fun rv43 =>
       (catS xv41 rv43).bind fun s24 =>
       some (.next (s24, t147))
     else
      some (.stop xv41)) : loopM body fuel (pre, (0 : Int)) = some (pre ++ txt l) := by
  have hW' : ∀ b ∈ l, b ≤ 126 := fun b h => wrt_le (hW b h).1
  have htl := txt_len _ l (Nat.le_refl _)
  refine Is.eq ?_
  refine Is.while (fun (st : Str × Int) => ∃ i : Nat, i ≤ l.length ∧ st.2 = (i : Int) ∧ st.1 ++ txt (l.drop i) = pre ++ txt l) (fun st => l.length - st.2.toNat) ⟨0, by omega, rfl, by simp⟩ (by show l.length - (0 : Int).toNat ≤ _; omega) ?_
  rintro ⟨out, _⟩ ⟨i, hi, rfl, hJ⟩
  simp only at hJ
  have hol : out.length ≤ 1290 := by have := congrArg List.length hJ; rw [List.length_append, List.length_append] at this; omega
  rw [hb]
  by_cases h : i < l.length
  · refine Is.dt (by rw [toI_len]; omega) (Is.bnq (chk_succ (by omega)) ?_)
    have hd : l.drop i = l[i] :: l.drop (i + 1) := (List.getElem_cons_drop h).symm
    rw [hd, txt_cons] at hJ
    have hw := hW _ (List.getElem_mem h)
    have hrl := runLen_le (l.drop (i + 1)) l[i]
    rw [List.length_drop] at hrl
    have hlast : (loopM (fun (t165 : Int) => ((bif (decide (t165 < ((toI l).length : Int))) then (idxL (toI l) (i : Int)).bind fun e238 => bif (decide (32 ≤ e238)) then (idxL (toI l) t165).bind fun e239 => (chk .i64 (t165 - 1)).bind fun t171 => (idxL (toI l) t171).bind fun e240 => some (e239 == (IntKind.u8.wrap (e240 + 1)))
          else some false else some false).bind fun (xv56 : Bool) => bif xv56 then (chk .i64 (t165 + 1)).bind fun t172 => some (.next t172) else some (Step.stop t165))) fuel ((i + 1 : Nat) : Int)) = some ((i + 1 + run l[i] (l.drop (i + 1)) : Nat) : Int) := by
      unfold run
      by_cases h32 : 32 ≤ l[i]
      · rw [if_pos h32]
        exact end_loop hl hW' h h32 (X := id) (fun x => rfl) _ (i + 1) fuel l[i] (by omega) (by omega) (by rw [Nat.add_sub_cancel, List.getElem?_eq_getElem h]) rfl (by unfold fuel; omega)
      · rw [if_neg h32]
        refine loop_stop (bind_of (x := false) ?_ rfl)
        by_cases h2 : i + 1 < l.length
        · exact cnd_t (dec_t (by rw [toI_len]; omega)) (bind_of (idx_toI h) (cnd_f (dec_f (by omega)) rfl))
        · exact cnd_f (dec_f (by rw [toI_len]; omega)) rfl
    have hr0 : run l[i] (l.drop (i + 1)) ≤ l.length - (i + 1) := by
      unfold run
      split
      · omega
      · omega
    generalize hr : run l[i] (l.drop (i + 1)) = r at hJ hlast hr0
    refine Is.bnq hlast ?_
    have hsub : chk .i64 (((i + 1 + r : Nat) : Int) - (i : Int)) = some ((r + 1 : Nat) : Int) := by rw [chk_i64 (by omega) (by omega)]; congr 1; omega
    refine Is.bnq hsub ?_
    have l1 := wch_len true l[i]
    by_cases h2 : 2 ≤ r
    · rw [if_pos h2] at hJ
      have hrun : r = runLen l[i] (l.drop (i + 1)) := by
        rw [← hr]; unfold run
        split
        · rfl
        · rename_i h3
          unfold run at hr
          rw [if_neg h3] at hr
          omega
      have hget := run_get (r - 1) l[i] (l.drop (i + 1)) (by omega)
      rw [List.getElem?_drop, show i + 1 + (r - 1) = i + r by omega, show l[i] + (r - 1) + 1 = l[i] + r by omega] at hget
      have hir : i + r < l.length := by omega
      have hval : l[i + r] = l[i] + r := by rw [List.getElem?_eq_getElem hir] at hget; exact Option.some.inj hget
      have hw2 := hW _ (List.getElem_mem hir)
      rw [hval] at hw2
      have l2 := wch_len true (l[i] + r)
      have hch : chk .i64 (((i + 1 + r : Nat) : Int) - 1) = some ((i + r : Nat) : Int) := by rw [chk_i64 (by omega) (by omega)]; congr 1; omega
      have hidx : idxL (toI l) ((i + r : Nat) : Int) = some ((l[i] + r : Nat) : Int) := by rw [idx_toI hir, hval]
      refine Is.dt (by omega) (Is.bnq (idx_toI h) (Is.bnq hch (Is.bnq hidx (Is.bnq (char_in _ hw.2 hw.1) (Is.bnq (cat_ok (by simp only [List.length_singleton]; omega)) (Is.bnq (char_in _ hw2.2 hw2.1) (Is.bnq (cat_ok (by simp only [List.length_append, List.length_singleton]; omega))
        (Is.bnq (cat_ok (by simp only [List.length_append, List.length_singleton]; omega)) (Is.next ⟨⟨i + 1 + r, by omega, rfl, ?_⟩, ?_⟩)))))))))
      · rw [List.drop_drop, show i + 1 + r = i + 1 + r from rfl] at hJ
        rw [← hJ]
        simp
      · show l.length - (((i + 1 + r : Nat) : Int)).toNat < l.length - ((i : Int)).toNat
        omega
    · rw [if_neg h2] at hJ
      refine Is.df (by omega) (Is.bnq (idx_toI h) (Is.bnq (char_in _ hw.2 hw.1) (Is.bnq (cat_ok (by omega)) (Is.next ⟨⟨i + 1, by omega, rfl, ?_⟩, ?_⟩))))
      · rw [← hJ]; simp
      · show l.length - (((i + 1 : Nat) : Int)).toNat < l.length - ((i : Int)).toNat
        omega
  · obtain rfl : i = l.length := by omega
    refine Is.df (by rw [toI_len]; omega) (Is.stop ?_)
    rw [List.drop_length, txt_nil, List.append_nil] at hJ
    exact hJ
end Go.Proofs.YtffienmbeifioaaDoor
