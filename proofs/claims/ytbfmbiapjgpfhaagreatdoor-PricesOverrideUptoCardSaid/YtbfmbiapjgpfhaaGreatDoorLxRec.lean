/- Lx, part 14: types that hold slices of themselves. -/
import Derived.Test.YtbfmbiapjgpfhaaGreatDoorLxTypes
namespace Go.Lx
section
variable {α : Type}
theorem RowRel.imp {τ τ' : Ty α} (hsz : τ.sz = τ'.sz) {g : Hp} (h : ∀ cs x, τ.rel g cs x → τ'.rel g cs x) {xs : List Value} {l : List α} (hr : RowRel τ g xs l) : RowRel τ' g xs l :=
  ⟨by rw [← hsz]; exact hr.1, fun i x hx => by rw [← hsz]; exact h _ _ (hr.2 i x hx)⟩
theorem RdS.imp {τ τ' : Ty α} (hsz : τ.sz = τ'.sz) {g : Hp} (h : ∀ cs x, τ.rel g cs x → τ'.rel g cs x) {v : Value} {l : List α} (hr : RdS τ g v l) : RdS τ' g v l :=
  let ⟨xs, h1, h2⟩ := hr; ⟨xs, h1.imp hsz h, h2⟩
theorem tSl_imp {τ τ' : Ty α} (hsz : τ.sz = τ'.sz) {g : Hp} (h : ∀ cs x, τ.rel g cs x → τ'.rel g cs x) {cs : List Value} {l : List α} (hr : (tSl τ).rel g cs l) : (tSl τ').rel g cs l :=
  let ⟨v, h1, h2⟩ := hr; ⟨v, h1, h2.imp hsz h⟩
/-- A step from a reading of the parts to one of the whole. -/
structure TyFun (α : Type) where
  sz : Nat
  F : Ty α → Ty α
  hsz : ∀ τ, (F τ).sz = sz
  mono : ∀ {τ τ' : Ty α} {g : Hp}, τ.sz = sz → τ'.sz = sz → (∀ cs x, τ.rel g cs x → τ'.rel g cs x) → ∀ cs x, (F τ).rel g cs x → (F τ').rel g cs x
def TyFun.iter (T : TyFun α) : Nat → Ty α
  | 0 => ⟨T.sz, fun _ _ _ => False, fun _ h => h.elim, fun h => h.elim, fun h => h.elim⟩
  | n + 1 => T.F (T.iter n)
theorem TyFun.iter_sz (T : TyFun α) : ∀ n, (T.iter n).sz = T.sz
  | 0 => rfl
  | n + 1 => T.hsz _
theorem TyFun.up (T : TyFun α) {g : Hp} : ∀ (n : Nat) (cs : List Value) (x : α), (T.iter n).rel g cs x → (T.iter (n + 1)).rel g cs x
  | 0, _, _, h => h.elim
  | n + 1, cs, x, h => T.mono (T.iter_sz n) (T.iter_sz (n + 1)) (TyFun.up T n) cs x h
theorem TyFun.le (T : TyFun α) {g : Hp} {n m : Nat} (hnm : n ≤ m) : ∀ (cs : List Value) (x : α), (T.iter n).rel g cs x → (T.iter m).rel g cs x := by
  induction hnm with
  | refl => exact fun _ _ h => h
  | step _ ih => exact fun cs x h => T.up _ cs x (ih cs x h)
theorem TyFun.fix_len (T : TyFun α) {g : Hp} {cs : List Value} {x : α} (h : ∃ n, (T.iter n).rel g cs x) : cs.length = T.sz := let ⟨n, h⟩ := h; ((T.iter n).len h).trans (T.iter_sz n)
theorem TyFun.fix_one (T : TyFun α) {g : Hp} {cs : List Value} {x : α} (h : ∃ n, (T.iter n).rel g cs x) : ∀ v ∈ cs, v.oneCell' = true := let ⟨n, h⟩ := h; (T.iter n).one h
theorem TyFun.fix_mono (T : TyFun α) {g g' : Hp} {cs : List Value} {x : α} (hg : Hle g g') (h : ∃ n, (T.iter n).rel g cs x) : ∃ n, (T.iter n).rel g' cs x := let ⟨n, h⟩ := h; ⟨n, (T.iter n).mono hg h⟩
theorem TyFun.supRow (T : TyFun α) {fix : Ty α} (hf : ∀ g cs x, fix.rel g cs x → ∃ n, (T.iter n).rel g cs x) (hs : fix.sz = T.sz) {g : Hp} {xs : List Value} {l : List α} (h : RowRel fix g xs l) : ∃ n, RowRel (T.iter n) g xs l := by
  have key : ∀ k, ∃ n, ∀ i, i < k → ∀ x, l[i]? = some x → (T.iter n).rel g ((xs.drop (i * T.sz)).take T.sz) x := by
    intro k
    induction k with
    | zero => exact ⟨0, fun i hi => absurd hi (Nat.not_lt_zero _)⟩
    | succ k ih =>
      obtain ⟨n, hn⟩ := ih
      cases hk : l[k]? with
      | none =>
        refine ⟨n, fun i hi x hx => ?_⟩
        by_cases hik : i = k
        · subst hik; rw [hk] at hx; cases hx
        · exact hn i (by omega) x hx
      | some y =>
        have := h.2 k y hk
        rw [hs] at this
        obtain ⟨m, hm⟩ := hf _ _ _ this
        refine ⟨max n m, fun i hi x hx => ?_⟩
        by_cases hik : i = k
        · subst hik; rw [hk] at hx; cases hx; exact T.le (Nat.le_max_right _ _) _ _ hm
        · exact T.le (Nat.le_max_left _ _) _ _ (hn i (by omega) x hx)
  obtain ⟨n, hn⟩ := key l.length
  refine ⟨n, ⟨by rw [T.iter_sz]; rw [← hs]; exact h.1, fun i x hx => ?_⟩⟩
  rw [T.iter_sz]
  exact hn i (List.getElem?_eq_some_iff.1 hx).1 x hx
theorem TyFun.sup (T : TyFun α) {fix : Ty α} (hf : ∀ g cs x, fix.rel g cs x → ∃ n, (T.iter n).rel g cs x) (hs : fix.sz = T.sz) {g : Hp} {cs : List Value} {l : List α} (h : (tSl fix).rel g cs l) : ∃ n, (tSl (T.iter n)).rel g cs l := by
  obtain ⟨v, h1, xs, h2, h3⟩ := h
  obtain ⟨n, hn⟩ := T.supRow hf hs h2
  exact ⟨n, v, h1, xs, hn, h3⟩
theorem TyFun.leSl (T : TyFun α) {g : Hp} {n m : Nat} (hnm : n ≤ m) {cs : List Value} {l : List α} (h : (tSl (T.iter n)).rel g cs l) : (tSl (T.iter m)).rel g cs l :=
  tSl_imp ((T.iter_sz n).trans (T.iter_sz m).symm) (T.le hnm) h
end
end Go.Lx
