/- Plain facts on layer 8: the two texts of a set are equal. -/
import Derived.Test.YtffienmbeifioaaDoorPl08f
import Derived.Test.YtffienmbeifioaaDoorPl08j
namespace Go.Proofs.YtffienmbeifioaaDoor
open Go.Lx

theorem cat_ok {a b : Str} (h : a.length + b.length ≤ 1000000000) : catS a b = some (a ++ b) := by unfold catS; rw [if_pos (by omega)]
theorem txt_le (v : Vec 4) : (txt (elems v)).length ≤ 1280 := by
  have := txt_len _ (elems v) (Nat.le_refl _)
  have := elems_len v
  omega
theorem last_loop {ρ : Type} {v : Vec 4} (hv : W4 v) (hW : ∀ c, c < 256 → mem v c = true → c ≤ 126) {body : Int → Option (Step Int ρ)} {X : Int → ρ}
    (hb : ∀ x, body x = ((bif decide (x < 126) then (chk .i64 (x + 1)).bind fun t => (M.ref08_Has v t).bind fun r => some r else some false).bind fun c => bif c then (chk .i64 (x + 1)).bind fun t => some (.next t) else some (.stop (X x)))) :
    ∀ (r b k : Nat), r = runLen b (frm v (b + 1)) → b ≤ 126 → r < k → loopM body k (b : Int) = some (X ((b + r : Nat) : Int)) := by
  intro r
  induction r with
  | zero =>
    intro b k h hb2 hk
    obtain ⟨k, rfl⟩ : ∃ k', k = k' + 1 := ⟨k - 1, by omega⟩
    refine loopM_stop ?_
    rw [hb]
    have hm : mem v (b + 1) = false ∨ ¬ b < 126 := by
      by_cases h2 : b < 126
      · rw [runLen_frm (by omega)] at h
        split at h
        · omega
        · rename_i h3; exact .inl (by simpa using h3)
      · exact .inr h2
    refine bind_of (x := false) ?_ rfl
    by_cases h2 : b < 126
    · have hm : mem v (b + 1) = false := hm.elim id (fun h => absurd h2 h)
      exact cnd_t (dec_t (by omega)) (bind_of (chk_succ (by omega)) (bind_of (refHas_ok hv (by omega)) (congrArg some hm)))
    · exact cnd_f (dec_f (by omega)) rfl
  | succ r ih =>
    intro b k h hb2 hk
    obtain ⟨k, rfl⟩ : ∃ k', k = k' + 1 := ⟨k - 1, by omega⟩
    rw [runLen_frm (by omega)] at h
    split at h
    · rename_i hm
      have h126 := hW (b + 1) (by omega) hm
      have hstep : body (b : Int) = some (.next ((b + 1 : Nat) : Int)) := by
        rw [hb]
        refine bind_of (x := true) (cnd_t (dec_t (by omega)) (bind_of (chk_succ (by omega)) (bind_of (refHas_ok hv (by omega)) (congrArg some hm)))) (bind_of (chk_succ (by omega)) rfl)
      rw [loopM_next hstep, ih (b + 1) k (Nat.succ.inj h) h126 (by omega)]
      congr 3
      omega
    · omega
theorem elements_ok {v : Vec 4} (hv : W4 v) (hW : ∀ c, c < 256 → mem v c = true → wrt c = true) : M.ref08_elements v = some (txt (elems v)) := by
  have hW' : ∀ c, c < 256 → mem v c = true → c ≤ 126 := fun c h1 h2 => wrt_le (hW c h1 h2)
  have htl := txt_le v
  refine Is.eq ?_
  unfold M.ref08_elements
  refine Is.bnd (P := fun r => r = txt (elems v)) ?_ (fun r hr => Is.pure hr)
  refine Is.while (fun (st : Str × Int) => ∃ b : Nat, b ≤ 256 ∧ st.2 = (b : Int) ∧ st.1 ++ txt (frm v b) = txt (elems v)) (fun st => 256 - st.2.toNat) ⟨0, by omega, rfl, by rw [frm_zero]; rfl⟩ (by show 256 - (0 : Int).toNat ≤ _; omega) ?_
  rintro ⟨out, _⟩ ⟨b, hb, rfl, hJ⟩
  simp only at hJ
  have hol : out.length ≤ 1280 := by have := congrArg List.length hJ; rw [List.length_append] at this; omega
  dsimp only
  by_cases h256 : b < 256
  · refine Is.dt (show (b : Int) < 256 by omega) ?_
    rw [frm_step h256] at hJ
    have done : ∀ (o : Str) (q : Nat), b ≤ q → q < 256 → o ++ txt (frm v (q + 1)) = txt (elems v) → Is ((chk .i64 ((q : Int) + 1)).bind fun t234 => some (Step.next (o, t234)))
        (SP (ρ := Str) (fun st => (∃ b : Nat, b ≤ 256 ∧ st.2 = (b : Int) ∧ st.1 ++ txt (frm v b) = txt (elems v)) ∧ 256 - st.2.toNat < 256 - (b : Int).toNat) (fun r => r = txt (elems v))) := by
      intro o q h1 h2 h3
      exact Is.bnq (chk_succ (by omega)) (Is.next ⟨⟨q + 1, by omega, rfl, h3⟩, by show 256 - (((q + 1 : Nat) : Int)).toNat < _; omega⟩)
    cases hm : mem v b
    · rw [hm] at hJ
      refine Is.bnq (x := (out, (b : Int))) (bind_of (refHas_ok hv h256) (cnd_t (by rw [hm]; rfl) rfl)) (done out b (Nat.le_refl _) h256 (by simpa using hJ))
    · rw [hm, if_pos rfl, txt_cons] at hJ
      have hw := hW b h256 hm
      have hb126 := wrt_le hw
      -- the end of the run
      have hlast : (loopM (fun (last83 : Int) => ((bif (decide (32 ≤ (b : Int))) then bif (decide (last83 < 126)) then (chk .i64 (last83 + 1)).bind fun t231 => (M.ref08_Has v t231).bind fun rv261 => some rv261 else some false else some false).bind fun (rv260 : Bool) =>
          bif rv260 then (chk .i64 (last83 + 1)).bind fun t232 => some (.next t232) else some (Step.stop last83))) fuel (b : Int)) = some ((b + run b (frm v (b + 1)) : Nat) : Int) := by
        unfold run
        by_cases h32 : 32 ≤ b
        · rw [if_pos h32]
          have hr := runLen_le (frm v (b + 1)) b
          have hl : (frm v (b + 1)).length ≤ 256 := Nat.le_trans (List.length_filter_le _ _) (elems_len v)
          refine last_loop hv hW' (X := id) (fun x => ?_) _ b fuel rfl hb126 (by unfold fuel; omega)
          rw [dec_t (show (32 : Int) ≤ (b : Int) by omega), cond_true]
          rfl
        · rw [if_neg h32]
          refine loop_stop ?_
          rw [dec_f (show ¬ (32 : Int) ≤ (b : Int) by omega)]
          rfl
      generalize hr : run b (frm v (b + 1)) = r at hJ hlast
      have hsub : chk .i64 (((b + r : Nat) : Int) - (b : Int)) = some (r : Int) := by
        have hr' : r ≤ 256 := by
          rw [← hr]; unfold run
          split
          · exact Nat.le_trans (runLen_le _ _) (Nat.le_trans (List.length_filter_le _ _) (elems_len v))
          · omega
        rw [chk_i64 (by omega) (by omega)]; congr 1; omega
      by_cases h2 : 2 ≤ r
      · rw [if_pos h2] at hJ
        have h32 : 32 ≤ b := by
          refine Nat.le_of_not_lt fun h => ?_
          unfold run at hr
          rw [if_neg (by omega)] at hr
          omega
        have hrl : r = runLen b (frm v (b + 1)) := by rw [← hr]; unfold run; rw [if_pos h32]
        obtain ⟨hdrop, hbr⟩ := drop_frm r b hrl (by omega)
        rw [hdrop] at hJ
        have l1 := wch_len true b
        have l2 := wch_len true (b + r)
        refine Is.bnq (x := (out ++ wch true b ++ [45] ++ wch true (b + r), ((b + r : Nat) : Int))) (bind_of (refHas_ok hv h256) (cnd_f (by rw [hm]; rfl) (bind_of hlast (bind_of hsub (cnd_t (dec_t (by omega)) ?_))))) (done _ (b + r) (by omega) hbr (by rw [← hJ]; simp))
        exact bind_of (written_ok true b h256) (bind_of (cat_ok (by omega)) (bind_of (cat_ok (by simp only [List.length_append, List.length_singleton]; omega)) (bind_of (written_ok true (b + r) hbr) (bind_of (cat_ok (by simp only [List.length_append, List.length_singleton]; omega)) rfl))))
      · rw [if_neg h2] at hJ
        have l1 := wch_len true b
        refine Is.bnq (x := (out ++ wch true b, (b : Int))) (bind_of (refHas_ok hv h256) (cnd_f (by rw [hm]; rfl) (bind_of hlast (bind_of hsub (cnd_f (dec_f (by omega)) ?_))))) (done _ b (Nat.le_refl _) h256 (by rw [← hJ]; simp))
        exact bind_of (written_ok true b h256) (bind_of (cat_ok (by omega)) rfl)
  · obtain rfl : b = 256 := by omega
    refine Is.df (by decide) (Is.stop ?_)
    rw [frm_end, txt_nil, List.append_nil] at hJ
    exact hJ
end Go.Proofs.YtffienmbeifioaaDoor
