/- Plain facts on layer 8: the derivatives of a small expression by a short string fit, and Derive answers on them. -/
import Derived.Test.YtffienmbeifioaaDoorPl08d
namespace Go.Proofs.YtffienmbeifioaaDoor
open Go.Lx
open Classical

theorem len_uaL {l : List T_Regex} (h : ∀ y ∈ l, (ua y).length ≤ parts y) : (uaL l).length ≤ partsL l := by
  induction l with
  | nil => simp [uaL]
  | cons y l ih =>
    rw [uaL, List.length_append, partsL]
    have := h y (by simp)
    have := ih fun z hz => h z (by simp [hz])
    omega
theorem len_ua : ∀ x, (ua x).length ≤ parts x := by
  refine T_Regex.ind fun k s l ih => ?_
  have := len_uaL ih
  rw [parts]
  by_cases h1 : k = 1
  · rw [ua_1 h1]; simp
  · by_cases h5 : k = 5
    · subst h5; rw [ua_5, List.length_cons]; omega
    · rw [ua_0 h1 h5]; simp
theorem len_pua (x : T_Regex) : (pua x).length ≤ parts x := by
  by_cases h1 : x.Kind = 1
  · rw [pua_1 h1]; simp
  · by_cases h5 : x.Kind = 5
    · obtain ⟨k, s, l⟩ := x
      obtain rfl : k = 5 := h5
      rw [pua_5, parts]
      have := len_uaL (l := l) fun y _ => len_ua y
      omega
    · rw [pua_0 h1 h5]; exact parts_pos x
theorem len_flat {α β : Type} {l : List α} {f : α → List β} {K : Nat} (h : ∀ u ∈ l, (f u).length ≤ K) : (l.flatMap f).length ≤ l.length * K := by
  induction l with
  | nil => simp
  | cons a l ih =>
    rw [List.flatMap_cons, List.length_append, List.length_cons, Nat.succ_mul]
    have := h a (by simp)
    have := ih fun u hu => h u (by simp [hu])
    omega
theorem wr4_pua {e : T_Regex} {m : List T_Regex} {P : Nat} (he : parts e ≤ P) (h : ∀ z ∈ m, parts z ≤ P) (hP : 1 ≤ P) : (pua (wr 4 e m)).length ≤ P := by
  match m with
  | [] => exact Nat.le_trans (len_pua _) he
  | [z] => exact Nat.le_trans (len_pua _) (h z (by simp))
  | y :: z :: m => rw [show wr 4 e (y :: z :: m) = ⟨4, Vec.zero 4, y :: z :: m⟩ from rfl, pua_0 (by show (4 : Int) ≠ 1; decide) (by show (4 : Int) ≠ 5; decide)]; simpa using hP
theorem pua_ct_len {E : T_Regex} {l : List T_Regex} {P : Nat} (hn : ne l ≠ []) (h : ∀ z ∈ l, parts z ≤ P) (hP : 1 ≤ P) : (pua (ct (E :: l))).length ≤ P := by
  rcases ct_cases E l with h1 | ⟨_, h2⟩ | ⟨_, _, h2⟩
  · rw [pua_1 h1]; simp
  · rw [h2]
    exact wr4_pua (by simp only [rEmpty, parts, partsL]; omega) (fun z hz => h z (ne_mem hz)) hP
  · rw [h2]
    cases hz : ne l with
    | nil => exact absurd hz hn
    | cons z m => rw [show wr 4 rEmpty (E :: z :: m) = ⟨4, Vec.zero 4, E :: z :: m⟩ from rfl, pua_0 (by show (4 : Int) ≠ 1; decide) (by show (4 : Int) ≠ 5; decide)]; simpa using hP
theorem height_pos (x : T_Regex) : 1 ≤ height x := by obtain ⟨k, s, l⟩ := x; simp [height]

theorem SS_len {P M : Nat} (hP : 3 ≤ P) (hM : 1 ≤ M) : ∀ x, parts x ≤ P → ∀ H, height x ≤ H → ∀ v, v.length ≤ M → (SS x v).length ≤ P * parts x * M ^ H := by
  refine T_Regex.ind fun k s l ih hp H hH v hv => ?_
  have hpl : partsL l + 1 ≤ P := hp
  have hhl : heightL l + 1 ≤ H := hH
  obtain ⟨H, rfl⟩ : ∃ H', H = H' + 1 := ⟨H - 1, by omega⟩
  have hMH : 1 ≤ M ^ H := Nat.one_le_pow _ _ hM
  have hk : ∀ y ∈ l, parts y ≤ P ∧ height y ≤ H := fun y hy => ⟨by have := parts_mem hy; omega, by have := height_mem hy; omega⟩
  have hbig : P * M ≤ P * parts (⟨k, s, l⟩ : T_Regex) * M ^ (H + 1) := by
    rw [Nat.pow_succ, Nat.mul_assoc P]
    refine Nat.mul_le_mul_left P ?_
    rw [← Nat.mul_assoc]
    exact Nat.le_mul_of_pos_left M (Nat.mul_pos (parts_pos _) hMH)
  have h3 : 3 * M ≤ P * M := Nat.mul_le_mul_right M hP
  by_cases h4 : k = 4
  · subst h4
    rw [SS_4]
    have key : ∀ m : List T_Regex, (∀ y ∈ m, y ∈ l) → (SC m v).length ≤ P * partsL m * M ^ (H + 1) := by
      intro m
      induction m with
      | nil => intro _; simp [SC]
      | cons y m ihm =>
        intro hm
        have h1 := ihm fun z hz => hm z (by simp [hz])
        have hy := hk y (hm y (by simp))
        have hK : P ≤ P * parts y * M ^ H := by
          rw [Nat.mul_assoc]
          exact Nat.le_mul_of_pos_right P (Nat.mul_pos (parts_pos _) hMH)
        have h2 : (hd y m v).length ≤ v.length * (P * parts y * M ^ H) := by
          unfold hd
          rw [← sfx_len v]
          split
          · exact len_flat fun u hu => ih y (hm y (by simp)) hy.1 H hy.2 u (Nat.le_trans (sfx_le hu) hv)
          · rename_i hn
            exact len_flat fun u _ => Nat.le_trans (pua_ct_len hn (fun z hz => (hk z (hm z (by simp [hz]))).1) (by omega)) hK
        have h5 : v.length * (P * parts y * M ^ H) ≤ P * parts y * M ^ (H + 1) := by
          rw [Nat.pow_succ, ← Nat.mul_assoc (P * parts y), Nat.mul_comm v.length]
          exact Nat.mul_le_mul_left _ hv
        show (hd y m v ++ SC m v).length ≤ _
        rw [List.length_append, partsL, Nat.mul_add, Nat.add_mul]
        omega
    refine Nat.le_trans (key l fun _ h => h) ?_
    exact Nat.mul_le_mul_right _ (Nat.mul_le_mul_left P (by show partsL l ≤ partsL l + 1; omega))
  · by_cases h5 : k = 5
    · subst h5
      rw [SS_5]
      have key : ∀ m : List T_Regex, (∀ y ∈ m, y ∈ l) → (SU m v).length ≤ P * partsL m * M ^ (H + 1) := by
        intro m
        induction m with
        | nil => intro _; simp [SU]
        | cons y m ihm =>
          intro hm
          have h1 := ihm fun z hz => hm z (by simp [hz])
          have hy := hk y (hm y (by simp))
          have h2 := ih y (hm y (by simp)) hy.1 (H + 1) (by omega) v hv
          rw [SU, List.length_append, partsL, Nat.mul_add, Nat.add_mul]
          omega
      refine Nat.le_trans (key l fun _ h => h) ?_
      exact Nat.mul_le_mul_right _ (Nat.mul_le_mul_left P (by show partsL l ≤ partsL l + 1; omega))
    · by_cases h6 : k = 6
      · subst h6
        have : (SS ⟨6, s, l⟩ v).length = v.length + 1 := by
          rw [SS]
          show (_ :: List.map _ (sfx v)).length = _
          rw [List.length_cons, List.length_map, sfx_len]
        rw [this]
        omega
      · rw [SS_0 h4 h5 h6]
        simp only [List.length_cons, List.length_nil]
        omega

/-! ### fitting -/
theorem fit_node {k : Int} {l : List T_Regex} (hk : k = 4 ∨ k = 5) (hl : l.length ≤ big) (h : ∀ y ∈ l, Fit y) : Fit ⟨k, Vec.zero 4, l⟩ :=
  .mk _ W4_zero hl (fun e => by simp only at e; omega) (fun e => by simp only at e; omega) (fun e => by simp only at e; omega) h
theorem heightL_le {l : List T_Regex} {h : Nat} (hh : ∀ y ∈ l, height y ≤ h) : heightL l ≤ h := by
  induction l with
  | nil => simp [heightL]
  | cons y l ih =>
    have := hh y (by simp)
    have := ih fun z hz => hh z (by simp [hz])
    simp only [heightL]; omega
theorem fit_wr {k : Int} {e : T_Regex} {l : List T_Regex} {h : Nat} (hk : k = 4 ∨ k = 5) (hl : l.length ≤ big) (he : Fit e ∧ height e ≤ h + 1) (hy : ∀ y ∈ l, Fit y ∧ height y ≤ h) :
    Fit (wr k e l) ∧ height (wr k e l) ≤ h + 1 := by
  match l with
  | [] => exact he
  | [y] => exact ⟨(hy y (by simp)).1, by have := (hy y (by simp)).2; simp only [wr]; omega⟩
  | y :: z :: l =>
    refine ⟨fit_node hk hl fun y h => (hy y h).1, ?_⟩
    have := heightL_le fun y h => (hy y h).2
    simp only [wr, height]; omega
theorem height_none : height rNone = 1 := by simp [rNone, height, heightL]
theorem height_empty : height rEmpty = 1 := by simp [rEmpty, height, heightL]
theorem fit_ct {l : List T_Regex} {h : Nat} (hl : l.length ≤ big) (hy : ∀ y ∈ l, Fit y ∧ height y ≤ h) : Fit (ct l) ∧ height (ct l) ≤ h + 1 := by
  unfold ct
  split
  · rename_i e he
    have := hy e (List.mem_of_find?_eq_some he)
    exact ⟨this.1, by omega⟩
  · exact fit_wr (.inl rfl) (Nat.le_trans (List.length_filter_le _ _) hl) ⟨fit_empty, by rw [height_empty]; omega⟩ fun y h => hy y (ne_mem h)
theorem fit_dr {a : T_Regex} {b h : Nat} {S : List T_Regex} (hC : Cn a) (hS : ∀ c, RawP a b c → c ∈ S) (hF : ∀ c ∈ S, Fit c ∧ height c ≤ h) (hl : S.length ≤ big) : Fit (dr a b) ∧ height (dr a b) ≤ h + 1 := by
  rcases dr_shape hC b with e | e | ⟨ks, e, hks⟩
  · rw [e, height_none]; exact ⟨fit_none, by omega⟩
  · have := hF _ (hS _ e)
    exact ⟨this.1, by omega⟩
  · have hm : ∀ c ∈ ks, c ∈ S := fun c hc => by
      rw [hks] at hc
      obtain ⟨r, h1, h2⟩ := unl_pua hc
      exact hS c ⟨r, h1, h2⟩
    rw [e]
    refine ⟨fit_node (.inr rfl) (Nat.le_trans (nodup_len (by rw [hks]; exact nodup_unl _) hm) hl) fun y hy => (hF y (hm y hy)).1, ?_⟩
    have := heightL_le fun y hy => (hF y (hm y hy)).2
    simp only [height]; omega
theorem fit_uaL {l : List T_Regex} (h : ∀ y ∈ l, ∀ a ∈ ua y, Fit a ∧ height a ≤ height y) : ∀ a ∈ uaL l, Fit a ∧ height a ≤ heightL l := by
  intro a ha
  obtain ⟨y, hy, ha⟩ := mem_uaL.1 ha
  have h1 := h y hy a ha
  have := height_mem hy
  exact ⟨h1.1, by omega⟩
theorem fit_ua : ∀ x, Fit x → ∀ a ∈ ua x, Fit a ∧ height a ≤ height x := by
  refine T_Regex.ind fun k s l ih hF a ha => ?_
  by_cases h1 : k = 1
  · rw [ua_1 h1] at ha; cases ha
  · by_cases h5 : k = 5
    · subst h5
      rw [ua_5, List.mem_cons] at ha
      rcases ha with rfl | ha
      · exact ⟨hF, Nat.le_refl _⟩
      · have := fit_uaL (fun y hy => ih y hy (hF.kids y hy)) a ha
        exact ⟨this.1, by simp only [height]; omega⟩
    · rw [ua_0 h1 h5, List.mem_singleton] at ha
      subst ha
      exact ⟨hF, Nat.le_refl _⟩

theorem gd4 {m : List T_Regex} {s : Vec 4} (hm : m.length ≤ big) (hz : ∀ z ∈ m, Fit z ∧ height z ≤ 3000 ∧ Gd z ∧ ∀ b, Fit (dr z b) ∧ height (dr z b) ≤ 3000)
    (S : Nat → List T_Regex) (hS : ∀ b c, RawP ⟨4, s, m⟩ b c → c ∈ S b) (hl : ∀ b, (S b).length ≤ big) : Gd ⟨4, s, m⟩ := by
  refine gd_concat (fun y hy => ⟨⟨(hz y hy).1, by have := (hz y hy).2.1; unfold fuel; omega⟩, (hz y hy).2.2.1⟩) hm fun b _ => ⟨?_, fun r hr => ?_⟩
  · refine Nat.le_trans (nodup_len (nodup_unl _) fun c hc => ?_) (hl b)
    obtain ⟨r, h1, h2⟩ := unl_pua hc
    exact hS b c ⟨r, h1, h2⟩
  · obtain ⟨pre, y, l', e, rfl⟩ := mem_drC hr
    have hy : y ∈ m := by rw [e]; simp
    have hl' : ∀ z ∈ l', z ∈ m := fun z hz => by rw [e]; simp [hz]
    have := fit_ct (l := dr y b :: l') (h := 3000) (by rw [e, List.length_append, List.length_cons] at hm; rw [List.length_cons]; omega) (fun z hz' => by
      rcases List.mem_cons.1 hz' with rfl | h
      · exact (hz y hy).2.2.2 b
      · exact ⟨(hz z (hl' z h)).1, (hz z (hl' z h)).2.1⟩)
    exact ⟨this.1, by unfold fuel; omega⟩
theorem gd5 {m : List T_Regex} {s : Vec 4} (hm : m.length ≤ big) (hz : ∀ z ∈ m, Gd z ∧ ∀ b, Fit (dr z b) ∧ height (dr z b) ≤ 3000)
    (S : Nat → List T_Regex) (hS : ∀ b c, RawP ⟨5, s, m⟩ b c → c ∈ S b) (hl : ∀ b, (S b).length ≤ big) : Gd ⟨5, s, m⟩ := by
  refine gd_union (fun y hy => (hz y hy).1) hm fun b _ => ⟨?_, fun r hr => ?_⟩
  · refine Nat.le_trans (nodup_len (nodup_unl _) fun c hc => ?_) (hl b)
    obtain ⟨r, h1, h2⟩ := unl_pua hc
    exact hS b c ⟨r, h1, h2⟩
  · obtain ⟨y, hy, rfl⟩ := mem_drL.1 hr
    have := (hz y hy).2 b
    exact ⟨this.1, by unfold fuel; omega⟩
section
variable {P M H : Nat} (hP : 3 ≤ P) (hM : 1 ≤ M) (hB : P * P * M ^ H ≤ big) (hH : H ≤ 1000)
include hP hM hB
theorem SS_big {x : T_Regex} (hp : parts x ≤ P) (hh : height x ≤ H) {v : List Nat} (hv : v.length ≤ M) : (SS x v).length ≤ big :=
  Nat.le_trans (SS_len hP hM x hp H hh v hv) (Nat.le_trans (Nat.mul_le_mul_right _ (Nat.mul_le_mul_left P hp)) hB)
theorem fit_all : ∀ x, Fit x → parts x ≤ P → height x ≤ H → (∀ v, v.length ≤ M → ∀ a ∈ SS x v, Fit a ∧ height a ≤ 2 * height x) ∧ (∀ v, v.length ≤ M → Fit (drs x v) ∧ height (drs x v) ≤ 2 * height x + 1) := by
  refine T_Regex.ind fun k s l ih hF hp hh => ?_
  have hpl : partsL l + 1 ≤ P := hp
  have hhl : heightL l + 1 ≤ H := hh
  have hx : height (⟨k, s, l⟩ : T_Regex) = heightL l + 1 := rfl
  have hky : ∀ y ∈ l, Fit y ∧ parts y ≤ P ∧ height y ≤ H ∧ height y ≤ heightL l := fun y hy => ⟨hF.kids y hy, by have := parts_mem hy; omega, by have := height_mem hy; omega, height_mem hy⟩
  have ihk := fun y hy => ih y hy (hky y hy).1 (hky y hy).2.1 (hky y hy).2.2.1
  have hlb : l.length ≤ big := hF.len
  have first : ∀ v, v.length ≤ M → ∀ a ∈ SS (⟨k, s, l⟩ : T_Regex) v, Fit a ∧ height a ≤ 2 * height (⟨k, s, l⟩ : T_Regex) := by
    intro v hv a ha
    by_cases h4 : k = 4
    · subst h4
      rw [SS_4] at ha
      obtain ⟨pre, y, l', el, ha⟩ := mem_SC.1 ha
      have hyl : y ∈ l := by rw [el]; simp
      have hl' : ∀ z ∈ l', z ∈ l := fun z hz => by rw [el]; simp [hz]
      have hle : l'.length + 1 ≤ big := by
        rw [el, List.length_append, List.length_cons] at hlb; omega
      unfold hd at ha
      split at ha
      · obtain ⟨u, hu, ha⟩ := List.mem_flatMap.1 ha
        have := (ihk y hyl).1 u (Nat.le_trans (sfx_le hu) hv) a ha
        exact ⟨this.1, by have := (hky y hyl).2.2.2; omega⟩
      · obtain ⟨u, hu, ha⟩ := List.mem_flatMap.1 ha
        have hE := (ihk y hyl).2 u (Nat.le_trans (sfx_le hu) hv)
        have hct := fit_ct (l := drs y u :: l') (h := 2 * heightL l + 1) (by rw [List.length_cons]; exact hle) (fun z hz => by
          rcases List.mem_cons.1 hz with rfl | hz
          · exact ⟨hE.1, by have := (hky y hyl).2.2.2; omega⟩
          · exact ⟨(hky z (hl' z hz)).1, by have := (hky z (hl' z hz)).2.2.2; omega⟩)
        have := fit_ua _ hct.1 a (pua_ua ha)
        exact ⟨this.1, by omega⟩
    · by_cases h5 : k = 5
      · subst h5
        rw [SS_5, mem_SU] at ha
        obtain ⟨y, hy, ha⟩ := ha
        have := (ihk y hy).1 v hv a ha
        exact ⟨this.1, by have := (hky y hy).2.2.2; omega⟩
      · by_cases h6 : k = 6
        · subst h6
          obtain ⟨s', y, e, hy⟩ := star_eq hF.cn rfl
          cases e
          rw [SS_6, List.mem_cons] at ha
          rcases ha with rfl | ha
          · exact ⟨hF, by omega⟩
          · obtain ⟨u, hu, rfl⟩ := List.mem_map.1 ha
            have hE := (ihk y (by simp)).2 u (Nat.le_trans (sfx_le hu) hv)
            have hct := fit_ct (l := [drs y u, ⟨6, s, [y]⟩]) (h := 2 * heightL [y] + 1) (by show 2 ≤ big; decide) (fun z hz => by
              rcases List.mem_cons.1 hz with rfl | hz
              · exact ⟨hE.1, by have := (hky y (by simp)).2.2.2; omega⟩
              · rw [List.mem_singleton.1 hz]; exact ⟨hF, by omega⟩)
            exact ⟨hct.1, by omega⟩
        · rw [SS_0 h4 h5 h6] at ha
          simp only [List.mem_cons, List.not_mem_nil, or_false] at ha
          rcases ha with rfl | rfl | rfl
          · exact ⟨hF, by omega⟩
          · exact ⟨fit_none, by rw [height_none]; omega⟩
          · exact ⟨fit_empty, by rw [height_empty]; omega⟩
  refine ⟨first, fun v hv => ?_⟩
  rcases snoc_cases v with rfl | ⟨u, b, rfl⟩
  · exact ⟨hF, by show height (⟨k, s, l⟩ : T_Regex) ≤ _; omega⟩
  · rw [drs_snoc]
    exact fit_dr (cn_drs u _ hF.cn) (raw_drs hF.cn _ u b rfl) (first _ hv) (SS_big hP hM hB hp hh hv)
include hH
theorem gd_all : ∀ x, Fit x → parts x ≤ P → height x ≤ H → (∀ a, (a = x ∨ a ∈ ua x) → Gd a) ∧ (∀ v, v.length < M → ∀ a ∈ SS x v, Gd a) ∧ (∀ v, v.length < M → Gd (drs x v)) := by
  refine T_Regex.ind fun k s l ih hF hp hh => ?_
  have hpl : partsL l + 1 ≤ P := hp
  have hhl : heightL l + 1 ≤ H := hh
  have hx : height (⟨k, s, l⟩ : T_Regex) = heightL l + 1 := rfl
  have hky : ∀ y ∈ l, Fit y ∧ parts y ≤ P ∧ height y ≤ H ∧ height y ≤ heightL l := fun y hy => ⟨hF.kids y hy, by have := parts_mem hy; omega, by have := height_mem hy; omega, height_mem hy⟩
  have ihk := fun y hy => ih y hy (hky y hy).1 (hky y hy).2.1 (hky y hy).2.2.1
  have fit := fun y hy => fit_all hP hM hB y (hky y hy).1 (hky y hy).2.1 (hky y hy).2.2.1
  have fitx := fit_all hP hM hB _ hF hp hh
  have hlb : l.length ≤ big := hF.len
  have hcl := closure _ hF.cn
  have hdrk : ∀ y ∈ l, ∀ b, Fit (dr y b) ∧ height (dr y b) ≤ 3000 := fun y hy b => by
    have := (fit y hy).2 [b] hM
    exact ⟨this.1, Nat.le_trans this.2 (by have := (hky y hy).2.2.2; omega)⟩
  have kid4 : ∀ y ∈ l, Fit y ∧ height y ≤ 3000 ∧ Gd y ∧ ∀ b, Fit (dr y b) ∧ height (dr y b) ≤ 3000 := fun y hy =>
    ⟨(hky y hy).1, by have := (hky y hy).2.2.2; omega, (ihk y hy).1 y (.inl rfl), hdrk y hy⟩
  have self : ∀ a, (a = (⟨k, s, l⟩ : T_Regex) ∨ a ∈ ua ⟨k, s, l⟩) → Gd a := by
    intro a ha
    by_cases h5 : k = 5
    · subst h5
      have ha : a = ⟨5, s, l⟩ ∨ a ∈ uaL l := by
        rcases ha with h | h
        · exact .inl h
        · rwa [ua_5, List.mem_cons] at h
      rcases ha with rfl | ha
      · exact gd5 hlb (fun y hy => ⟨(kid4 y hy).2.2.1, hdrk y hy⟩) (fun b => SS ⟨5, s, l⟩ [b]) (fun b => hcl.1 b _ (.inl rfl)) fun b => SS_big hP hM hB hp hh hM
      · obtain ⟨y, hy, ha⟩ := mem_uaL.1 ha
        exact (ihk y hy).1 a (.inr ha)
    · have ha : a = ⟨k, s, l⟩ := by
        rcases ha with h | h
        · exact h
        · by_cases h1 : k = 1
          · subst h1; rw [ua_1 rfl] at h; cases h
          · rwa [ua_0 h1 h5, List.mem_singleton] at h
      subst ha
      by_cases h4 : k = 4
      · subst h4
        exact gd4 hlb kid4 (fun b => SS ⟨4, s, l⟩ [b]) (fun b => hcl.1 b _ (.inl rfl)) fun b => SS_big hP hM hB hp hh hM
      · by_cases h6 : k = 6
        · subst h6
          obtain ⟨s', y, e, hy⟩ := star_eq hF.cn rfl
          cases e
          exact gd_star ((ihk y (by simp)).1 y (.inl rfl))
        · exact gd_other hF h4 h5 h6
  have mid : ∀ v, v.length < M → ∀ a ∈ SS (⟨k, s, l⟩ : T_Regex) v, Gd a := by
    intro v hv a ha
    have hlen : ∀ b, (v ++ [b]).length ≤ M := fun b => by rw [List.length_append, List.length_singleton]; omega
    have hcC := fun b => hcl.2 v b a ha
    by_cases h4 : k = 4
    · subst h4
      have ha0 := ha
      rw [SS_4] at ha
      obtain ⟨pre, y, l', el, hb⟩ := mem_SC.1 ha
      have hyl : y ∈ l := by rw [el]; simp
      have hl' : ∀ z ∈ l', z ∈ l := fun z hz => by rw [el]; simp [hz]
      have hle : l'.length + 1 ≤ big := by
        rw [el, List.length_append, List.length_cons] at hlb; omega
      unfold hd at hb
      split at hb
      · obtain ⟨u, hu, hb⟩ := List.mem_flatMap.1 hb
        exact (ihk y hyl).2.1 u (Nat.lt_of_le_of_lt (sfx_le hu) hv) a hb
      · rename_i hn
        obtain ⟨u, hu, hb⟩ := List.mem_flatMap.1 hb
        have hul : u.length < M := Nat.lt_of_le_of_lt (sfx_le hu) hv
        have hnl : (ne l').length ≤ l'.length := List.length_filter_le _ _
        rcases ct_cases (drs y u) l' with h1 | ⟨_, h2⟩ | ⟨_, _, h2⟩
        · rw [pua_1 h1] at hb; cases hb
        · rw [h2] at hb
          cases hz : ne l' with
          | nil => exact absurd hz hn
          | cons z m =>
            cases m with
            | nil =>
              rw [hz] at hb
              exact (ihk z (hl' z (ne_mem (by rw [hz]; simp)))).1 a (.inr (pua_ua hb))
            | cons z' m =>
              have e : wr 4 rEmpty (ne l') = ⟨4, Vec.zero 4, ne l'⟩ := by rw [hz]; rfl
              rw [e, pua_0 (by show (4 : Int) ≠ 1; decide) (by show (4 : Int) ≠ 5; decide), List.mem_singleton] at hb
              subst hb
              exact gd4 (by omega) (fun z hz => kid4 z (hl' z (ne_mem hz))) (fun b => SS ⟨4, s, l⟩ (v ++ [b])) hcC fun b => SS_big hP hM hB hp hh (hlen b)
        · rw [h2] at hb
          have e : wr 4 rEmpty (drs y u :: ne l') = ⟨4, Vec.zero 4, drs y u :: ne l'⟩ := by
            cases hz : ne l' with
            | nil => exact absurd hz hn
            | cons z m => rfl
          rw [e, pua_0 (by show (4 : Int) ≠ 1; decide) (by show (4 : Int) ≠ 5; decide), List.mem_singleton] at hb
          subst hb
          refine gd4 (by rw [List.length_cons]; omega) (fun z hz => ?_) (fun b => SS ⟨4, s, l⟩ (v ++ [b])) hcC fun b => SS_big hP hM hB hp hh (hlen b)
          rcases List.mem_cons.1 hz with rfl | hz
          · have f1 := (fit y hyl).2 u (Nat.le_of_lt hul)
            have hyh := (hky y hyl).2.2.2
            refine ⟨f1.1, by omega, (ihk y hyl).2.2 u hul, fun b => ?_⟩
            have f2 := (fit y hyl).2 (u ++ [b]) (by rw [List.length_append, List.length_singleton]; omega)
            rw [drs_snoc] at f2
            exact ⟨f2.1, by omega⟩
          · exact kid4 z (hl' z (ne_mem hz))
    · by_cases h5 : k = 5
      · subst h5
        rw [SS_5, mem_SU] at ha
        obtain ⟨y, hy, ha⟩ := ha
        exact (ihk y hy).2.1 v hv a ha
      · by_cases h6 : k = 6
        · subst h6
          obtain ⟨s', y, e, hy⟩ := star_eq hF.cn rfl
          cases e
          have ha0 := ha
          rw [SS_6, List.mem_cons] at ha
          rcases ha with rfl | ha
          · exact self _ (.inl rfl)
          · obtain ⟨u, hu, rfl⟩ := List.mem_map.1 ha
            have hul : u.length < M := Nat.lt_of_le_of_lt (sfx_le hu) hv
            have hn : ne [(⟨6, s, [y]⟩ : T_Regex)] = [⟨6, s, [y]⟩] := by unfold ne; rw [List.filter_cons, if_pos (by simp)]; rfl
            have f1 := (fit y (by simp)).2 u (Nat.le_of_lt hul)
            have hyh := (hky y (by simp)).2.2.2
            rcases ct_cases (drs y u) [⟨6, s, [y]⟩] with h1 | ⟨_, h2⟩ | ⟨_, _, h2⟩
            · have hcn : Cn (ct [drs y u, ⟨6, s, [y]⟩]) := cn_ct fun z hz => by
                rcases List.mem_cons.1 hz with rfl | hz
                · exact f1.1.cn
                · rw [List.mem_singleton.1 hz]; exact hF.cn
              rw [hcn.none h1]
              exact gd_other fit_none (by decide) (by decide) (by decide)
            · rw [h2, hn]
              exact self _ (.inl rfl)
            · rw [h2, hn] at hcC ⊢
              refine gd4 (by show 2 ≤ big; decide) (fun z hz => ?_) (fun b => SS ⟨6, s, [y]⟩ (v ++ [b])) hcC fun b => SS_big hP hM hB hp hh (hlen b)
              rcases List.mem_cons.1 hz with rfl | hz
              · refine ⟨f1.1, by omega, (ihk y (by simp)).2.2 u hul, fun b => ?_⟩
                have f2 := (fit y (by simp)).2 (u ++ [b]) (by rw [List.length_append, List.length_singleton]; omega)
                rw [drs_snoc] at f2
                exact ⟨f2.1, by omega⟩
              · rw [List.mem_singleton.1 hz]
                refine ⟨hF, by omega, self _ (.inl rfl), fun b => ?_⟩
                have := fitx.2 [b] hM
                exact ⟨this.1, Nat.le_trans this.2 (by omega)⟩
        · rw [SS_0 h4 h5 h6] at ha
          simp only [List.mem_cons, List.not_mem_nil, or_false] at ha
          rcases ha with rfl | rfl | rfl
          · exact self _ (.inl rfl)
          · exact gd_other fit_none (by decide) (by decide) (by decide)
          · exact gd_other fit_empty (by decide) (by decide) (by decide)
  refine ⟨self, mid, fun v hv => ?_⟩
  rcases snoc_cases v with rfl | ⟨u, b, rfl⟩
  · exact self _ (.inl rfl)
  · have hr0 := raw_drs hF.cn _ u b rfl
    rcases dr_shape (cn_drs u _ hF.cn) b with e | e | ⟨ks, e, hks⟩
    · rw [drs_snoc, e]; exact gd_other fit_none (by decide) (by decide) (by decide)
    · rw [drs_snoc]; exact mid _ hv _ (hr0 _ e)
    · have hm : ∀ c ∈ ks, c ∈ SS (⟨k, s, l⟩ : T_Regex) (u ++ [b]) := fun c hc => by
        rw [hks] at hc
        obtain ⟨r, h1, h2⟩ := unl_pua hc
        exact hr0 c ⟨r, h1, h2⟩
      have hsl := SS_big hP hM hB hp hh (x := ⟨k, s, l⟩) (Nat.le_of_lt hv)
      have hlen : ∀ d, (u ++ [b] ++ [d]).length ≤ M := fun d => by rw [List.length_append, List.length_singleton]; omega
      have hrd := fun d => raw_drs hF.cn _ (u ++ [b]) d rfl
      rw [drs_snoc, e] at hrd ⊢
      refine gd5 (Nat.le_trans (nodup_len (by rw [hks]; exact nodup_unl _) hm) hsl) (fun z hz => ⟨mid _ hv z (hm z hz), fun d => ?_⟩) (fun d => SS ⟨k, s, l⟩ (u ++ [b] ++ [d])) hrd
        fun d => SS_big hP hM hB hp hh (hlen d)
      have fz := fitx.1 _ (Nat.le_of_lt hv) z (hm z hz)
      have := fit_dr fz.1.cn (hcl.2 _ d z (hm z hz)) (fitx.1 _ (hlen d)) (SS_big hP hM hB hp hh (hlen d))
      exact ⟨this.1, by omega⟩
end
end Go.Proofs.YtffienmbeifioaaDoor
