/- Plain facts on layer 8: the alternatives of the derivatives of an expression lie in a list that is not too long. -/
import Derived.Test.YtffienmbeifioaaDoorPl08c
namespace Go.Proofs.YtffienmbeifioaaDoor
open Go.Lx
open Classical

/-! ### canonical forms -/
inductive Cn : T_Regex → Prop where
  | mk (x : T_Regex) : W4 x.Set → (x.Kind = 6 → ∃ y, x.Kids = [y]) → (x.Kind = 1 → x = rNone) → (x.Kind = 2 → x = rEmpty) → (∀ y ∈ x.Kids, Cn y) → Cn x
theorem Cn.set {x} (h : Cn x) : W4 x.Set := by cases h; assumption
theorem Cn.star {x} (h : Cn x) : x.Kind = 6 → ∃ y, x.Kids = [y] := by cases h; assumption
theorem Cn.none {x} (h : Cn x) : x.Kind = 1 → x = rNone := by cases h; assumption
theorem Cn.empty {x} (h : Cn x) : x.Kind = 2 → x = rEmpty := by cases h; assumption
theorem Cn.kids {x} (h : Cn x) : ∀ y ∈ x.Kids, Cn y := by cases h; assumption
theorem Fit.cn {x} (h : Fit x) : Cn x := by
  induction h with
  | mk x h1 _ h3 h4 h5 _ ih => exact .mk x h1 h3 h4 h5 ih
theorem cn_none : Cn rNone := fit_none.cn
theorem cn_empty : Cn rEmpty := fit_empty.cn
theorem cn_node {k : Int} {l : List T_Regex} (hk : k = 4 ∨ k = 5) (h : ∀ y ∈ l, Cn y) : Cn ⟨k, Vec.zero 4, l⟩ :=
  .mk _ W4_zero (fun e => by simp only at e; omega) (fun e => by simp only at e; omega) (fun e => by simp only at e; omega) h
theorem cn_wr {k : Int} {e : T_Regex} {l : List T_Regex} (hk : k = 4 ∨ k = 5) (he : Cn e) (h : ∀ y ∈ l, Cn y) : Cn (wr k e l) := by
  match l with
  | [] => exact he
  | [y] => exact h y (by simp)
  | y :: z :: l => exact cn_node hk h
theorem alts_cn {r a : T_Regex} (h : Cn r) (ha : a ∈ alts r) : Cn a := by
  unfold alts at ha
  rw [List.mem_filter] at ha
  cases hk : r.Kind == 5
  · rw [hk, cond_false, List.mem_singleton] at ha; exact ha.1 ▸ h
  · rw [hk, cond_true] at ha; exact h.kids a ha.1
theorem cn_un {l : List T_Regex} (h : ∀ r ∈ l, Cn r) : Cn (un l) := cn_wr (.inr rfl) cn_none fun y hy => by
  obtain ⟨r, hr, hy⟩ := mem_unl.1 hy
  exact alts_cn (h r hr) hy
theorem cn_ct {l : List T_Regex} (h : ∀ r ∈ l, Cn r) : Cn (ct l) := by
  unfold ct
  split
  · rename_i e he; exact h e (List.mem_of_find?_eq_some he)
  · exact cn_wr (.inl rfl) cn_empty fun y hy => h y (List.mem_filter.1 hy).1
theorem mem_drC {l : List T_Regex} {b : Nat} {r : T_Regex} (h : r ∈ drC l b) : ∃ pre y l', l = pre ++ y :: l' ∧ r = ct (dr y b :: l') := by
  induction l with
  | nil => cases h
  | cons y l ih =>
    rw [drC, List.mem_cons] at h
    rcases h with rfl | h
    · exact ⟨[], y, l, rfl, rfl⟩
    · cases hn : nb y
      · rw [hn] at h; cases h
      · rw [hn] at h
        obtain ⟨pre, z, l', rfl, rfl⟩ := ih h
        exact ⟨y :: pre, z, l', rfl, rfl⟩
theorem mem_drL {l : List T_Regex} {b : Nat} {r : T_Regex} : r ∈ drL l b ↔ ∃ y ∈ l, r = dr y b := by
  induction l with
  | nil => simp [drL]
  | cons y l ih => simp [drL, ih]
theorem dr_4 {s l b} : dr ⟨4, s, l⟩ b = un (drC l b) := by rw [dr]; rfl
theorem dr_5 {s l b} : dr ⟨5, s, l⟩ b = un (drL l b) := by rw [dr]; rfl
theorem dr_6 {s y b} : dr ⟨6, s, [y]⟩ b = ct [dr y b, ⟨6, s, [y]⟩] := by rw [dr, drL, drL]; rfl
theorem dr_3 {s l b} : dr ⟨3, s, l⟩ b = bif mem s b then rEmpty else rNone := by rw [dr]; rfl
theorem dr_0 {k s l b} (h3 : k ≠ 3) (h4 : k ≠ 4) (h5 : k ≠ 5) (h6 : k ≠ 6) : dr ⟨k, s, l⟩ b = rNone := by
  rw [dr, beq_f h3, beq_f h4, beq_f h5, beq_f h6]; rfl
theorem dr_k1 {x : T_Regex} {b : Nat} (h : x.Kind = 1) : dr x b = rNone := by
  obtain ⟨k, s, l⟩ := x
  obtain rfl : k = 1 := h
  exact dr_0 (by decide) (by decide) (by decide) (by decide)
theorem star_eq {x : T_Regex} (hC : Cn x) (h : x.Kind = 6) : ∃ s y, x = ⟨6, s, [y]⟩ ∧ Cn y := by
  obtain ⟨y, hy⟩ := hC.star h
  obtain ⟨k, s, l⟩ := x
  cases h; cases hy
  exact ⟨s, y, rfl, hC.kids y (by simp)⟩
theorem cn_dr (b : Nat) : ∀ x, Cn x → Cn (dr x b) := by
  refine T_Regex.ind fun k s l ih hC => ?_
  have hk := hC.kids
  rcases dispatch k with rfl | rfl | rfl | rfl | rfl | ⟨h2, h3, h4, h5, h6⟩
  · rw [dr_0 (by decide) (by decide) (by decide) (by decide)]; exact cn_none
  · rw [dr_3]
    cases mem s b
    · exact cn_none
    · exact cn_empty
  · rw [dr_4]
    refine cn_un fun r hr => ?_
    obtain ⟨pre, y, l', rfl, rfl⟩ := mem_drC hr
    refine cn_ct fun z hz => ?_
    rcases List.mem_cons.1 hz with rfl | hz
    · exact ih y (by simp) (hk y (by simp))
    · exact hk z (by simp [hz])
  · rw [dr_5]
    refine cn_un fun r hr => ?_
    obtain ⟨y, hy, rfl⟩ := mem_drL.1 hr
    exact ih y hy (hk y hy)
  · obtain ⟨s', y, e, hy⟩ := star_eq hC rfl
    cases e
    rw [dr_6]
    refine cn_ct fun z hz => ?_
    rcases List.mem_cons.1 hz with rfl | hz
    · exact ih y (by simp) hy
    · rw [List.mem_singleton.1 hz]; exact hC
  · rw [dr_0 h3 h4 h5 h6]; exact cn_none
theorem cn_drs (v : List Nat) : ∀ x, Cn x → Cn (drs x v) := by
  induction v with
  | nil => exact fun _ h => h
  | cons b v ih => exact fun x h => ih _ (cn_dr b x h)
theorem ct_one {z : T_Regex} (h : Cn z) : ct [z] = z := by
  unfold ct ne
  by_cases h1 : z.Kind = 1
  · rw [List.find?_cons, beq_t h1]
  · rw [List.find?_cons, beq_f h1]
    by_cases h2 : z.Kind = 2
    · simp [h2, wr, ← h.empty h2]
    · simp [h2, wr]
theorem ne_ne (l : List T_Regex) : ne (ne l) = ne l := by unfold ne; rw [List.filter_filter]; simp
theorem find_ne (l : List T_Regex) : (ne l).find? (·.Kind == 1) = l.find? (·.Kind == 1) := by
  induction l with
  | nil => rfl
  | cons y l ih =>
    unfold ne
    by_cases h : y.Kind = 2
    · rw [List.filter_cons, if_neg (by simp [h]), List.find?_cons, beq_f (by omega : y.Kind ≠ 1)]
      exact ih
    · rw [List.filter_cons, if_pos (by simp [h]), List.find?_cons, List.find?_cons]
      cases y.Kind == 1
      · exact ih
      · rfl
theorem ct_ne (z : T_Regex) (l : List T_Regex) : ct (z :: ne l) = ct (z :: l) := by
  have h1 : (z :: ne l).find? (·.Kind == 1) = (z :: l).find? (·.Kind == 1) := by rw [List.find?_cons, List.find?_cons, find_ne]
  have h2 : ne (z :: ne l) = ne (z :: l) := by
    have e : ∀ m, ne (z :: m) = ne [z] ++ ne m := fun m => by unfold ne; rw [← List.filter_append]; rfl
    rw [e, e l, ne_ne]
  unfold ct
  rw [h1, h2]
/-- What a concatenation comes to. -/
theorem ct_cases (E : T_Regex) (l : List T_Regex) : (ct (E :: l)).Kind = 1 ∨ (E.Kind = 2 ∧ ct (E :: l) = wr 4 rEmpty (ne l)) ∨ (E.Kind ≠ 2 ∧ E.Kind ≠ 1 ∧ ct (E :: l) = wr 4 rEmpty (E :: ne l)) := by
  unfold ct
  split
  · rename_i e he
    exact .inl (by simpa using List.find?_some he)
  · rename_i he
    by_cases h : E.Kind = 2
    · refine .inr (.inl ⟨h, ?_⟩)
      unfold ne
      rw [List.filter_cons, if_neg (by simp [h])]
    · refine .inr (.inr ⟨h, ?_, ?_⟩)
      · rw [List.find?_cons] at he
        intro h1
        rw [beq_t h1] at he
        cases he
      · unfold ne
        rw [List.filter_cons, if_pos (by simp [h])]

/-! ### alternatives, at all levels -/
mutual
def ua : T_Regex → List T_Regex
  | ⟨k, s, l⟩ => bif k == 5 then ⟨k, s, l⟩ :: uaL l else bif k == 1 then [] else [⟨k, s, l⟩]
def uaL : List T_Regex → List T_Regex
  | [] => []
  | y :: l => ua y ++ uaL l
end
def pua (x : T_Regex) : List T_Regex := bif x.Kind == 5 then uaL x.Kids else bif x.Kind == 1 then [] else [x]
theorem mem_uaL {l : List T_Regex} {a : T_Regex} : a ∈ uaL l ↔ ∃ y ∈ l, a ∈ ua y := by
  induction l with
  | nil => simp [uaL]
  | cons y l ih => simp [uaL, ih]
theorem ua_5 {s l} : ua ⟨5, s, l⟩ = ⟨5, s, l⟩ :: uaL l := by rw [ua]; rfl
theorem ua_1 {x : T_Regex} (h : x.Kind = 1) : ua x = [] := by obtain ⟨k, s, l⟩ := x; obtain rfl : k = 1 := h; rw [ua]; rfl
theorem ua_0 {x : T_Regex} (h1 : x.Kind ≠ 1) (h5 : x.Kind ≠ 5) : ua x = [x] := by obtain ⟨k, s, l⟩ := x; rw [ua, beq_f h1, beq_f h5]; rfl
theorem pua_1 {x : T_Regex} (h : x.Kind = 1) : pua x = [] := by unfold pua; rw [h]; rfl
theorem pua_0 {x : T_Regex} (h1 : x.Kind ≠ 1) (h5 : x.Kind ≠ 5) : pua x = [x] := by unfold pua; rw [beq_f h1, beq_f h5]; rfl
theorem pua_5 {s l} : pua ⟨5, s, l⟩ = uaL l := rfl
theorem self_ua {x : T_Regex} (h : x.Kind ≠ 1) : x ∈ ua x := by
  by_cases h5 : x.Kind = 5
  · obtain ⟨k, s, l⟩ := x; obtain rfl : k = 5 := h5; rw [ua_5]; simp
  · rw [ua_0 h h5]; simp
theorem pua_ua {x c : T_Regex} (h : c ∈ pua x) : c ∈ ua x := by
  by_cases h1 : x.Kind = 1
  · rw [pua_1 h1] at h; cases h
  · by_cases h5 : x.Kind = 5
    · obtain ⟨k, s, l⟩ := x; obtain rfl : k = 5 := h5; rw [ua_5]; exact List.mem_cons_of_mem _ h
    · rw [pua_0 h1 h5] at h; rw [ua_0 h1 h5]; exact h
theorem alts_pua {r a : T_Regex} (ha : a ∈ alts r) : a ∈ ua a ∧ ∀ c ∈ ua a, c ∈ pua r := by
  unfold alts at ha
  rw [List.mem_filter] at ha
  have h1 : a.Kind ≠ 1 := by simpa using ha.2
  refine ⟨self_ua h1, fun c hc => ?_⟩
  cases hk : r.Kind == 5
  · rw [hk, cond_false, List.mem_singleton] at ha
    obtain rfl := ha.1
    rw [ua_0 h1 (of_beq_f hk)] at hc
    rw [pua_0 h1 (of_beq_f hk)]
    exact hc
  · rw [hk, cond_true] at ha
    obtain ⟨k, s, l⟩ := r
    obtain rfl : k = 5 := of_beq_t hk
    exact mem_uaL.2 ⟨a, ha.1, hc⟩
theorem unl_pua {l : List T_Regex} {a : T_Regex} (h : a ∈ unl l) : ∃ r ∈ l, a ∈ pua r := by
  obtain ⟨r, hr, h⟩ := mem_unl.1 h
  exact ⟨r, hr, (alts_pua h).2 a (alts_pua h).1⟩
theorem pua_un {l : List T_Regex} {c : T_Regex} (h : c ∈ pua (un l)) : ∃ r ∈ l, c ∈ pua r := by
  unfold un at h
  have key : ∀ a ∈ unl l, c ∈ ua a → ∃ r ∈ l, c ∈ pua r := fun a ha hc => by
    obtain ⟨r, hr, h⟩ := mem_unl.1 ha
    exact ⟨r, hr, (alts_pua h).2 c hc⟩
  generalize unl l = ks at h key
  match ks with
  | [] => cases h
  | [y] => exact key y (by simp) (pua_ua h)
  | y :: z :: ks =>
    obtain ⟨a, ha, hc⟩ := mem_uaL.1 (show c ∈ uaL (y :: z :: ks) from h)
    exact key a ha hc

/-! ### what a derivative is made of -/
noncomputable def raw (x : T_Regex) (b : Nat) : List T_Regex := bif x.Kind == 4 then drC x.Kids b else bif x.Kind == 5 then drL x.Kids b else [dr x b]
def RawP (x : T_Regex) (b : Nat) (c : T_Regex) : Prop := ∃ r ∈ raw x b, c ∈ pua r
theorem raw_4 {s l b} : raw ⟨4, s, l⟩ b = drC l b := rfl
theorem raw_5 {s l b} : raw ⟨5, s, l⟩ b = drL l b := rfl
theorem raw_0 {x : T_Regex} {b : Nat} (h4 : x.Kind ≠ 4) (h5 : x.Kind ≠ 5) : raw x b = [dr x b] := by unfold raw; rw [beq_f h4, beq_f h5]; rfl
theorem pua_dr {x : T_Regex} {b : Nat} {c : T_Regex} (h : c ∈ pua (dr x b)) : RawP x b c := by
  by_cases h4 : x.Kind = 4
  · obtain ⟨k, s, l⟩ := x; obtain rfl : k = 4 := h4
    rw [dr_4] at h
    exact pua_un h
  · by_cases h5 : x.Kind = 5
    · obtain ⟨k, s, l⟩ := x; obtain rfl : k = 5 := h5
      rw [dr_5] at h
      exact pua_un h
    · exact ⟨_, by rw [raw_0 h4 h5]; simp, h⟩
theorem rawP_0 {x : T_Regex} {b : Nat} {c : T_Regex} (h4 : x.Kind ≠ 4) (h5 : x.Kind ≠ 5) (h : RawP x b c) : c ∈ pua (dr x b) := by
  obtain ⟨r, hr, hc⟩ := h
  rw [raw_0 h4 h5, List.mem_singleton] at hr
  exact hr ▸ hc
theorem rawP_1 {x : T_Regex} {b : Nat} {c : T_Regex} (h1 : x.Kind = 1) : ¬ RawP x b c := by
  intro h
  have := rawP_0 (by omega) (by omega) h
  rw [dr_k1 h1] at this
  cases this
theorem star_pua {E x c : T_Regex} (hx : x.Kind = 6) (h : c ∈ pua (ct [E, x])) : c = ct [E, x] := by
  have hn : ne [x] = [x] := by unfold ne; rw [List.filter_cons, if_pos (by simp [hx])]; rfl
  rcases ct_cases E [x] with h1 | ⟨_, h2⟩ | ⟨_, _, h2⟩
  · rw [pua_1 h1] at h; cases h
  · rw [hn] at h2
    rw [h2, show wr 4 rEmpty [x] = x from rfl, pua_0 (by omega) (by omega), List.mem_singleton] at h
    rw [h2]; exact h
  · rw [hn] at h2
    rw [h2, show wr 4 rEmpty [E, x] = ⟨4, Vec.zero 4, [E, x]⟩ from rfl, pua_0 (by show (4 : Int) ≠ 1; decide) (by show (4 : Int) ≠ 5; decide), List.mem_singleton] at h
    rw [h2]; exact h
/-- What a derivative comes to. -/
theorem dr_shape {x : T_Regex} (hC : Cn x) (b : Nat) : dr x b = rNone ∨ RawP x b (dr x b) ∨ ∃ ks, dr x b = ⟨5, Vec.zero 4, ks⟩ ∧ ks = unl (raw x b) := by
  have key : ∀ l, raw x b = l → dr x b = un l → dr x b = rNone ∨ RawP x b (dr x b) ∨ ∃ ks, dr x b = ⟨5, Vec.zero 4, ks⟩ ∧ ks = unl (raw x b) := by
    intro l hr hd
    have hm : ∀ a ∈ unl l, RawP x b a := fun a ha => by
      obtain ⟨r, h1, h2⟩ := unl_pua ha
      exact ⟨r, hr ▸ h1, h2⟩
    rw [hd, hr]
    unfold un
    generalize unl l = ks at hm
    match ks with
    | [] => exact .inl rfl
    | [y] => exact .inr (.inl (hm y (by simp)))
    | y :: z :: ks => exact .inr (.inr ⟨_, rfl, rfl⟩)
  have hcd := cn_dr b x hC
  by_cases h1 : (dr x b).Kind = 1
  · exact .inl (hcd.none h1)
  obtain ⟨k, s, l⟩ := x
  rcases dispatch k with rfl | rfl | rfl | rfl | rfl | ⟨h2, h3, h4, h5, h6⟩
  · exact .inl (dr_0 (by decide) (by decide) (by decide) (by decide))
  · have e := @dr_3 s l b
    cases hm : mem s b
    · rw [hm] at e; exact .inl e
    · rw [hm] at e
      refine .inr (.inl ⟨dr ⟨3, s, l⟩ b, by rw [raw_0 (by show (3 : Int) ≠ 4; decide) (by show (3 : Int) ≠ 5; decide)]; simp, ?_⟩)
      rw [e]; simp [pua, rEmpty]
  · exact key _ raw_4 dr_4
  · exact key _ raw_5 dr_5
  · obtain ⟨s', y, e, hy⟩ := star_eq hC rfl
    cases e
    refine .inr (.inl ⟨dr ⟨6, s, [y]⟩ b, by rw [raw_0 (by show (6 : Int) ≠ 4; decide) (by show (6 : Int) ≠ 5; decide)]; simp, ?_⟩)
    have h5 : (dr ⟨6, s, [y]⟩ b).Kind ≠ 5 := by
      rw [dr_6] at h1 ⊢
      have hn : ne [(⟨6, s, [y]⟩ : T_Regex)] = [⟨6, s, [y]⟩] := by unfold ne; rw [List.filter_cons, if_pos (by simp)]; rfl
      rcases ct_cases (dr y b) [⟨6, s, [y]⟩] with h | ⟨_, h⟩ | ⟨_, _, h⟩
      · exact absurd h h1
      · rw [h, hn]; show (6 : Int) ≠ 5; decide
      · rw [h, hn]; show (4 : Int) ≠ 5; decide
    rw [pua_0 h1 h5]; simp
  · exact .inl (dr_0 h3 h4 h5 h6)

/-! ### the list -/
def sfx : List Nat → List (List Nat)
  | [] => []
  | a :: v => (a :: v) :: sfx v
theorem sfx_len (v : List Nat) : (sfx v).length = v.length := by
  induction v with
  | nil => rfl
  | cons a v ih => simp [sfx, ih]
theorem sfx_le {v u : List Nat} (h : u ∈ sfx v) : u.length ≤ v.length := by
  induction v with
  | nil => cases h
  | cons a v ih =>
    rw [sfx, List.mem_cons] at h
    rcases h with rfl | h
    · exact Nat.le_refl _
    · have := ih h; simp only [List.length_cons]; omega
theorem sfx_snoc {v u : List Nat} {b : Nat} (h : u ∈ sfx v) : u ++ [b] ∈ sfx (v ++ [b]) := by
  induction v with
  | nil => cases h
  | cons a v ih =>
    rw [sfx, List.mem_cons] at h
    rw [List.cons_append, sfx, List.mem_cons]
    rcases h with rfl | h
    · exact .inl rfl
    · exact .inr (ih h)
theorem sfx_last (v : List Nat) (b : Nat) : [b] ∈ sfx (v ++ [b]) := by
  induction v with
  | nil => simp [sfx]
  | cons a v ih => rw [List.cons_append, sfx]; exact List.mem_cons_of_mem _ ih
theorem drs_snoc (x : T_Regex) (v : List Nat) (b : Nat) : drs x (v ++ [b]) = dr (drs x v) b := by unfold drs; rw [List.foldl_append]; rfl
mutual
noncomputable def SS : T_Regex → List Nat → List T_Regex
  | ⟨k, s, l⟩, v => bif k == 4 then SC l v else bif k == 5 then SU l v
    else bif k == 6 then ⟨k, s, l⟩ :: (sfx v).map (fun u => ct [drs (l.headD rNone) u, ⟨k, s, l⟩]) else [⟨k, s, l⟩, rNone, rEmpty]
noncomputable def SU : List T_Regex → List Nat → List T_Regex
  | [], _ => []
  | y :: l, v => SS y v ++ SU l v
noncomputable def SC : List T_Regex → List Nat → List T_Regex
  | [], _ => []
  | y :: l, v => (if ne l = [] then (sfx v).flatMap (fun u => SS y u) else (sfx v).flatMap (fun u => pua (ct (drs y u :: l)))) ++ SC l v
end
noncomputable def hd (y : T_Regex) (l : List T_Regex) (v : List Nat) : List T_Regex :=
  if ne l = [] then (sfx v).flatMap (fun u => SS y u) else (sfx v).flatMap (fun u => pua (ct (drs y u :: l)))
theorem mem_SU {l : List T_Regex} {v : List Nat} {c : T_Regex} : c ∈ SU l v ↔ ∃ y ∈ l, c ∈ SS y v := by
  induction l with
  | nil => simp [SU]
  | cons y l ih => simp [SU, ih]
theorem mem_SC {l : List T_Regex} {v : List Nat} {c : T_Regex} : c ∈ SC l v ↔ ∃ pre y l', l = pre ++ y :: l' ∧ c ∈ hd y l' v := by
  induction l with
  | nil => simp [SC]
  | cons y l ih =>
    rw [SC, List.mem_append, ih]
    constructor
    · rintro (h | ⟨pre, z, l', rfl, h⟩)
      · exact ⟨[], y, l, rfl, h⟩
      · exact ⟨y :: pre, z, l', rfl, h⟩
    · rintro ⟨pre, z, l', e, h⟩
      cases pre with
      | nil => cases e; exact .inl h
      | cons p pre => cases e; exact .inr ⟨pre, z, l', rfl, h⟩
theorem SS_4 {s l v} : SS ⟨4, s, l⟩ v = SC l v := by rw [SS]; rfl
theorem SS_5 {s l v} : SS ⟨5, s, l⟩ v = SU l v := by rw [SS]; rfl
theorem SS_6 {s y v} : SS ⟨6, s, [y]⟩ v = ⟨6, s, [y]⟩ :: (sfx v).map (fun u => ct [drs y u, ⟨6, s, [y]⟩]) := by rw [SS]; rfl
theorem SS_0 {k s l v} (h4 : k ≠ 4) (h5 : k ≠ 5) (h6 : k ≠ 6) : SS ⟨k, s, l⟩ v = [⟨k, s, l⟩, rNone, rEmpty] := by rw [SS, beq_f h4, beq_f h5, beq_f h6]; rfl

theorem drC_ne {l : List T_Regex} {b : Nat} {r : T_Regex} (h : r ∈ drC (ne l) b) : ∃ pre y l', l = pre ++ y :: l' ∧ r = ct (dr y b :: l') := by
  induction l with
  | nil => cases h
  | cons y l ih =>
    unfold ne at h
    by_cases h2 : y.Kind = 2
    · rw [List.filter_cons, if_neg (by simp [h2])] at h
      obtain ⟨pre, z, l', rfl, rfl⟩ := ih h
      exact ⟨y :: pre, z, l', rfl, rfl⟩
    · rw [List.filter_cons, if_pos (by simp [h2]), drC, List.mem_cons] at h
      rcases h with h | h
      · exact ⟨[], y, l, rfl, h.trans (ct_ne _ l)⟩
      · cases hn : nb y
        · rw [hn] at h; cases h
        · rw [hn] at h
          obtain ⟨pre, z, l', rfl, rfl⟩ := ih h
          exact ⟨y :: pre, z, l', rfl, rfl⟩
theorem ne_single {l : List T_Regex} {z : T_Regex} (h : ne l = [z]) : ∃ pre l', l = pre ++ z :: l' ∧ ne l' = [] := by
  induction l with
  | nil => cases h
  | cons y l ih =>
    unfold ne at h
    by_cases h2 : y.Kind = 2
    · rw [List.filter_cons, if_neg (by simp [h2])] at h
      obtain ⟨pre, l', rfl, hn⟩ := ih h
      exact ⟨y :: pre, l', rfl, hn⟩
    · rw [List.filter_cons, if_pos (by simp [h2])] at h
      simp only [List.cons.injEq] at h
      obtain ⟨rfl, hn⟩ := h
      exact ⟨[], l, rfl, hn⟩
theorem ne_mem {l : List T_Regex} {z : T_Regex} (h : z ∈ ne l) : z ∈ l := (List.mem_filter.1 h).1

/-- B: what the derivative of x, or of an alternative of it, is made of; C: the list is closed. -/
def ClB (x : T_Regex) : Prop := ∀ b a, (a = x ∨ a ∈ ua x) → ∀ c, RawP a b c → c ∈ SS x [b]
def ClC (x : T_Regex) : Prop := ∀ v b, ∀ a ∈ SS x v, ∀ c, RawP a b c → c ∈ SS x (v ++ [b])
theorem C1 {l pre l' : List T_Regex} {y : T_Regex} {b : Nat} {w : List Nat} {c : T_Regex} (hl : l = pre ++ y :: l') (hB : ClB y) (hC : Cn y) (hw : [b] ∈ sfx w) (h : c ∈ pua (ct (dr y b :: l'))) : c ∈ SC l w := by
  refine mem_SC.2 ⟨pre, y, l', hl, ?_⟩
  unfold hd
  split
  · rename_i hn
    refine List.mem_flatMap.2 ⟨[b], hw, ?_⟩
    rw [← ct_ne, hn, ct_one (cn_dr b y hC)] at h
    exact hB b y (.inl rfl) c (pua_dr h)
  · exact List.mem_flatMap.2 ⟨[b], hw, h⟩
theorem closure : ∀ x, Cn x → ClB x ∧ ClC x := by
  refine T_Regex.ind fun k s l ih hC => ?_
  have hk := hC.kids
  have ihB : ∀ y ∈ l, ClB y := fun y hy => (ih y hy (hk y hy)).1
  have ihC : ∀ y ∈ l, ClC y := fun y hy => (ih y hy (hk y hy)).2
  by_cases h4 : k = 4
  · subst h4
    have hself : ∀ a, (a = (⟨4, s, l⟩ : T_Regex) ∨ a ∈ ua ⟨4, s, l⟩) → a = ⟨4, s, l⟩ := by
      rintro a (h | h)
      · exact h
      · rwa [ua_0 (by show (4 : Int) ≠ 1; decide) (by show (4 : Int) ≠ 5; decide), List.mem_singleton] at h
    refine ⟨fun b a ha c hc => ?_, fun v b a ha c hc => ?_⟩
    · obtain rfl := hself a ha
      obtain ⟨r, hr, hc⟩ := hc
      obtain ⟨pre, y, l', rfl, rfl⟩ := mem_drC hr
      rw [SS_4]
      exact C1 rfl (ihB y (by simp)) (hk y (by simp)) (sfx_last [] b) hc
    · rw [SS_4] at ha ⊢
      obtain ⟨pre, y, l', el, hb⟩ := mem_SC.1 ha
      clear ha
      have ha := hb
      clear hb
      subst el
      have hsub : ∀ pre2 z l'', l' = pre2 ++ z :: l'' → pre ++ y :: l' = (pre ++ y :: pre2) ++ z :: l'' := by rintro pre2 z l'' rfl; simp
      have hdC : ∀ r, r ∈ drC (ne l') b → c ∈ pua r → c ∈ SC (pre ++ y :: l') (v ++ [b]) := by
        intro r hr hc
        obtain ⟨pre2, z, l'', e, rfl⟩ := drC_ne hr
        exact C1 (hsub _ _ _ e) (ihB z (by simp [e])) (hk z (by simp [e])) (sfx_last v b) hc
      unfold hd at ha
      split at ha
      · rename_i hn
        obtain ⟨u, hu, ha⟩ := List.mem_flatMap.1 ha
        refine mem_SC.2 ⟨pre, y, l', rfl, ?_⟩
        unfold hd
        rw [if_pos hn]
        exact List.mem_flatMap.2 ⟨u ++ [b], sfx_snoc hu, ihC y (by simp) u b a ha c hc⟩
      · rename_i hn
        obtain ⟨u, hu, ha⟩ := List.mem_flatMap.1 ha
        rcases ct_cases (drs y u) l' with h1 | ⟨_, h2⟩ | ⟨_, _, h2⟩
        · rw [pua_1 h1] at ha; cases ha
        · rw [h2] at ha
          cases hz : ne l' with
          | nil => exact absurd hz hn
          | cons z m =>
            cases m with
            | nil =>
              rw [hz] at ha
              have hzl : z ∈ l' := ne_mem (by rw [hz]; simp)
              obtain ⟨pre2, l'', e, hn2⟩ := ne_single hz
              refine mem_SC.2 ⟨_, z, l'', hsub _ _ _ e, ?_⟩
              unfold hd
              rw [if_pos hn2]
              exact List.mem_flatMap.2 ⟨[b], sfx_last v b, ihB z (by simp [hzl]) b a (.inr (pua_ua ha)) c hc⟩
            | cons z' m =>
              have e : wr 4 rEmpty (ne l') = ⟨4, Vec.zero 4, ne l'⟩ := by rw [hz]; rfl
              rw [e, pua_0 (by show (4 : Int) ≠ 1; decide) (by show (4 : Int) ≠ 5; decide), List.mem_singleton] at ha
              subst ha
              obtain ⟨r, hr, hc⟩ := hc
              exact hdC r hr hc
        · rw [h2] at ha
          have e : wr 4 rEmpty (drs y u :: ne l') = ⟨4, Vec.zero 4, drs y u :: ne l'⟩ := by
            cases hz : ne l' with
            | nil => exact absurd hz hn
            | cons z m => rfl
          rw [e, pua_0 (by show (4 : Int) ≠ 1; decide) (by show (4 : Int) ≠ 5; decide), List.mem_singleton] at ha
          subst ha
          obtain ⟨r, hr, hc⟩ := hc
          rw [raw_4, drC, List.mem_cons] at hr
          rcases hr with rfl | hr
          · refine mem_SC.2 ⟨pre, y, l', rfl, ?_⟩
            unfold hd
            rw [if_neg hn]
            refine List.mem_flatMap.2 ⟨u ++ [b], sfx_snoc hu, ?_⟩
            rw [drs_snoc, ← ct_ne]
            exact hc
          · cases hnb : nb (drs y u)
            · rw [hnb] at hr; cases hr
            · rw [hnb] at hr; exact hdC r hr hc
  · by_cases h5 : k = 5
    · subst h5
      refine ⟨fun b a ha c hc => ?_, fun v b a ha c hc => ?_⟩
      · rw [SS_5, mem_SU]
        have ha : a = ⟨5, s, l⟩ ∨ a ∈ uaL l := by
          rcases ha with h | h
          · exact .inl h
          · rwa [ua_5, List.mem_cons] at h
        rcases ha with rfl | h
        · obtain ⟨r, hr, hc⟩ := hc
          obtain ⟨y, hy, rfl⟩ := mem_drL.1 hr
          exact ⟨y, hy, ihB y hy b y (.inl rfl) c (pua_dr hc)⟩
        · obtain ⟨y, hy, h⟩ := mem_uaL.1 h
          exact ⟨y, hy, ihB y hy b a (.inr h) c hc⟩
      · rw [SS_5, mem_SU] at ha ⊢
        obtain ⟨y, hy, ha⟩ := ha
        exact ⟨y, hy, ihC y hy v b a ha c hc⟩
    · have hua : ∀ a, (a = (⟨k, s, l⟩ : T_Regex) ∨ a ∈ ua ⟨k, s, l⟩) → a = ⟨k, s, l⟩ := by
        rintro a (h | h)
        · exact h
        · by_cases h1 : k = 1
          · subst h1; rw [ua_1 rfl] at h; cases h
          · rwa [ua_0 h1 h5, List.mem_singleton] at h
      by_cases h6 : k = 6
      · subst h6
        obtain ⟨s', y, e, hy⟩ := star_eq hC rfl
        cases e
        have hx : ∀ v b c, RawP ⟨6, s, [y]⟩ b c → c ∈ SS ⟨6, s, [y]⟩ (v ++ [b]) := by
          intro v b c hc
          have := rawP_0 (by show (6 : Int) ≠ 4; decide) (by show (6 : Int) ≠ 5; decide) hc
          rw [dr_6] at this
          rw [SS_6, star_pua rfl this]
          exact List.mem_cons_of_mem _ (List.mem_map.2 ⟨[b], sfx_last v b, rfl⟩)
        refine ⟨fun b a ha c hc => by obtain rfl := hua a ha; exact hx [] b c hc, fun v b a ha c hc => ?_⟩
        rw [SS_6, List.mem_cons] at ha
        rcases ha with rfl | ha
        · exact hx v b c hc
        · obtain ⟨u, hu, rfl⟩ := List.mem_map.1 ha
          have hn : ne [(⟨6, s, [y]⟩ : T_Regex)] = [⟨6, s, [y]⟩] := by unfold ne; rw [List.filter_cons, if_pos (by simp)]; rfl
          rcases ct_cases (drs y u) [⟨6, s, [y]⟩] with h1 | ⟨_, h2⟩ | ⟨_, _, h2⟩
          · exact absurd hc (rawP_1 h1)
          · rw [h2, hn] at hc
            exact hx v b c hc
          · rw [h2, hn] at hc
            obtain ⟨r, hr, hc⟩ := hc
            have hr : r ∈ drC [drs y u, ⟨6, s, [y]⟩] b := hr
            rw [drC, List.mem_cons] at hr
            rcases hr with rfl | hr
            · rw [← drs_snoc] at hc
              rw [SS_6, star_pua rfl hc]
              exact List.mem_cons_of_mem _ (List.mem_map.2 ⟨u ++ [b], sfx_snoc hu, rfl⟩)
            · cases hnb : nb (drs y u)
              · rw [hnb] at hr; cases hr
              · rw [hnb, cond_true, drC, drC, show nb (⟨6, s, [y]⟩ : T_Regex) = true from rfl, cond_true, List.mem_singleton, ct_one (cn_dr b _ hC)] at hr
                subst hr
                exact hx v b c (pua_dr hc)
      · have hd0 : ∀ a b, (a = (⟨k, s, l⟩ : T_Regex) ∨ a = rNone ∨ a = rEmpty) → ∀ c, RawP a b c → c = rEmpty := by
          intro a b ha c hc
          have h0 : dr a b = rNone ∨ dr a b = rEmpty := by
            rcases ha with rfl | rfl | rfl
            · by_cases h3 : k = 3
              · subst h3
                rw [dr_3]
                cases mem s b
                · exact .inl rfl
                · exact .inr rfl
              · exact .inl (dr_0 h3 h4 h5 h6)
            · exact .inl (dr_0 (by decide) (by decide) (by decide) (by decide))
            · exact .inl (dr_0 (by decide) (by decide) (by decide) (by decide))
          have hc2 : c ∈ pua (dr a b) := by
            rcases ha with rfl | rfl | rfl
            · exact rawP_0 h4 h5 hc
            · exact rawP_0 (by show (1 : Int) ≠ 4; decide) (by show (1 : Int) ≠ 5; decide) hc
            · exact rawP_0 (by show (2 : Int) ≠ 4; decide) (by show (2 : Int) ≠ 5; decide) hc
          rcases h0 with h0 | h0
          · rw [h0] at hc2; cases hc2
          · rw [h0] at hc2
            exact List.mem_singleton.1 hc2
        refine ⟨fun b a ha c hc => ?_, fun v b a ha c hc => ?_⟩
        · rw [SS_0 h4 h5 h6, hd0 a b (.inl (hua a ha)) c hc]; simp
        · rw [SS_0 h4 h5 h6] at ha ⊢
          rw [hd0 a b (by simpa using ha) c hc]; simp
theorem snoc_cases (v : List Nat) : v = [] ∨ ∃ u b, v = u ++ [b] := by
  rcases List.eq_nil_or_concat v with h | ⟨u, b, h⟩
  · exact .inl h
  · exact .inr ⟨u, b, by rw [h, List.concat_eq_append]⟩
theorem raw_drs {x : T_Regex} (hC : Cn x) : ∀ n v b, v.length = n → ∀ c, RawP (drs x v) b c → c ∈ SS x (v ++ [b]) := by
  intro n
  induction n with
  | zero =>
    intro v b hv c hc
    obtain rfl := List.eq_nil_of_length_eq_zero hv
    exact (closure x hC).1 b x (.inl rfl) c hc
  | succ n ih =>
    intro v b hv c hc
    rcases snoc_cases v with rfl | ⟨u, d, rfl⟩
    · cases hv
    rw [List.length_append, List.length_singleton] at hv
    have hp : ∀ a ∈ pua (drs x (u ++ [d])), a ∈ SS x (u ++ [d]) := fun a ha => by
      rw [drs_snoc] at ha
      exact ih u d (by omega) a (pua_dr ha)
    have hcl := (closure x hC).2
    generalize drs x (u ++ [d]) = y at hc hp
    by_cases h1 : y.Kind = 1
    · exact absurd hc (rawP_1 h1)
    · by_cases h5 : y.Kind = 5
      · obtain ⟨k, s, l⟩ := y
        cases h5
        obtain ⟨r, hr, hc⟩ := hc
        obtain ⟨a, ha, rfl⟩ := mem_drL.1 hr
        have hc := pua_dr hc
        by_cases ha1 : a.Kind = 1
        · exact absurd hc (rawP_1 ha1)
        · exact hcl _ b a (hp a (mem_uaL.2 ⟨a, ha, self_ua ha1⟩)) c hc
      · exact hcl _ b y (hp y (by rw [pua_0 h1 h5]; simp)) c hc
end Go.Proofs.YtffienmbeifioaaDoor
