/- Plain facts on layer 8: languages of expressions; the derivative, the union and the concatenation as plain functions; what they mean. No program in sight. -/
import Derived.Test.YtajmekjcnbmaaaaPl08a
import Derived.Test.YtajmekjcnbmaaaaPl07s
namespace Go.Proofs.Ytajmekjcnbmaaaa
open Go.Lx
open Classical

def rNone : T_Regex := ⟨1, Vec.zero 4, []⟩
def rEmpty : T_Regex := ⟨2, Vec.zero 4, []⟩
mutual
def nb : T_Regex → Bool
  | ⟨k, _, l⟩ => bif k == 2 || k == 6 then true else bif k == 4 then nbA l else bif k == 5 then nbO l else false
def nbA : List T_Regex → Bool
  | [] => true
  | y :: l => nb y && nbA l
def nbO : List T_Regex → Bool
  | [] => false
  | y :: l => nb y || nbO l
end
def alts (r : T_Regex) : List T_Regex := (bif r.Kind == 5 then r.Kids else [r]).filter (·.Kind != 1)
noncomputable def addU (ks : List T_Regex) (k : T_Regex) : List T_Regex := if k ∈ ks then ks else ks ++ [k]
noncomputable def unl (l : List T_Regex) : List T_Regex := (l.flatMap alts).foldl addU []
def wr (k : Int) (e : T_Regex) : List T_Regex → T_Regex
  | [] => e
  | [y] => y
  | y :: z :: l => ⟨k, Vec.zero 4, y :: z :: l⟩
noncomputable def un (l : List T_Regex) : T_Regex := wr 5 rNone (unl l)
def ne (l : List T_Regex) : List T_Regex := l.filter (·.Kind != 2)
def ct (l : List T_Regex) : T_Regex := match l.find? (·.Kind == 1) with
  | some e => e
  | none => wr 4 rEmpty (ne l)
mutual
noncomputable def dr : T_Regex → Nat → T_Regex
  | ⟨k, s, l⟩, b => bif k == 3 then (bif mem s b then rEmpty else rNone) else bif k == 4 then un (drC l b) else bif k == 5 then un (drL l b)
    else bif k == 6 then ct [(drL l b).headD rNone, ⟨k, s, l⟩] else rNone
noncomputable def drC : List T_Regex → Nat → List T_Regex
  | [], _ => []
  | y :: l, b => ct (dr y b :: l) :: (bif nb y then drC l b else [])
noncomputable def drL : List T_Regex → Nat → List T_Regex
  | [], _ => []
  | y :: l, b => dr y b :: drL l b
end

/-! ### languages -/
inductive St (P : List Nat → Prop) : List Nat → Prop where
  | nil : St P []
  | cons {u v : List Nat} : P u → St P v → St P (u ++ v)
mutual
def L : T_Regex → List Nat → Prop
  | ⟨k, s, l⟩ => fun w => (k = 2 ∧ w = []) ∨ (k = 3 ∧ ∃ b, w = [b] ∧ mem s b = true) ∨ (k = 4 ∧ LC l w) ∨ (k = 5 ∧ LU l w) ∨ (k = 6 ∧ St (LH l) w)
def LC : List T_Regex → List Nat → Prop
  | [] => fun w => w = []
  | y :: l => fun w => ∃ u v, w = u ++ v ∧ L y u ∧ LC l v
def LU : List T_Regex → List Nat → Prop
  | [] => fun _ => False
  | y :: l => fun w => L y w ∨ LU l w
def LH : List T_Regex → List Nat → Prop
  | [] => fun _ => False
  | y :: _ => fun w => L y w
end
theorem L_1 {s l w} : ¬ L ⟨1, s, l⟩ w := by simp [L]
theorem L_k1 {x : T_Regex} {w : List Nat} (h : x.Kind = 1) : ¬ L x w := by obtain ⟨k, s, l⟩ := x; cases h; exact L_1
theorem L_2 {s l w} : L ⟨2, s, l⟩ w ↔ w = [] := by simp [L]
theorem L_k2 {x : T_Regex} {w : List Nat} (h : x.Kind = 2) : L x w ↔ w = [] := by obtain ⟨k, s, l⟩ := x; cases h; exact L_2
theorem L_3 {s l w} : L ⟨3, s, l⟩ w ↔ ∃ b, w = [b] ∧ mem s b = true := by simp [L]
theorem L_4 {s l w} : L ⟨4, s, l⟩ w ↔ LC l w := by simp [L]
theorem L_5 {s l w} : L ⟨5, s, l⟩ w ↔ LU l w := by simp [L]
theorem L_6 {s l w} : L ⟨6, s, l⟩ w ↔ St (LH l) w := by simp [L]
theorem L_0 {k s l w} (h2 : k ≠ 2) (h3 : k ≠ 3) (h4 : k ≠ 4) (h5 : k ≠ 5) (h6 : k ≠ 6) : ¬ L ⟨k, s, l⟩ w := by simp [L, h2, h3, h4, h5, h6]
theorem LU_iff {l : List T_Regex} {w : List Nat} : LU l w ↔ ∃ y ∈ l, L y w := by
  induction l with
  | nil => simp [LU]
  | cons y l ih => simp [LU, ih]
theorem nbA_eq (l : List T_Regex) : nbA l = l.all nb := by
  induction l with
  | nil => rfl
  | cons y l ih => simp [nbA, ih]
theorem nbO_eq (l : List T_Regex) : nbO l = l.any nb := by
  induction l with
  | nil => rfl
  | cons y l ih => simp [nbO, ih]
theorem LC_nil {l : List T_Regex} : LC l [] ↔ ∀ y ∈ l, L y [] := by
  induction l with
  | nil => simp [LC]
  | cons y l ih =>
    simp only [LC, List.nil_eq, List.append_eq_nil_iff, List.mem_cons, forall_eq_or_imp]
    rw [← ih]
    exact ⟨fun ⟨u, v, ⟨e1, e2⟩, h1, h2⟩ => by subst e1; subst e2; exact ⟨h1, h2⟩, fun ⟨h1, h2⟩ => ⟨[], [], ⟨rfl, rfl⟩, h1, h2⟩⟩
theorem ex_cons {α : Type} {a : α} {l : List α} {P : α → Prop} : (∃ r, r ∈ a :: l ∧ P r) ↔ P a ∨ ∃ r, r ∈ l ∧ P r := by simp
theorem dispatch (k : Int) : k = 2 ∨ k = 3 ∨ k = 4 ∨ k = 5 ∨ k = 6 ∨ (k ≠ 2 ∧ k ≠ 3 ∧ k ≠ 4 ∧ k ≠ 5 ∧ k ≠ 6) := by omega
theorem nb_iff : ∀ x, nb x = true ↔ L x [] := by
  refine T_Regex.ind fun k s l ih => ?_
  rcases dispatch k with rfl | rfl | rfl | rfl | rfl | ⟨h2, h3, h4, h5, h6⟩
  · simp [nb, L_2]
  · simp [nb, L_3]
  · rw [L_4, LC_nil]
    show nbA l = true ↔ _
    rw [nbA_eq, List.all_eq_true]
    exact ⟨fun h y hy => (ih y hy).1 (h y hy), fun h y hy => (ih y hy).2 (h y hy)⟩
  · rw [L_5, LU_iff]
    show nbO l = true ↔ _
    rw [nbO_eq, List.any_eq_true]
    exact ⟨fun ⟨y, hy, h⟩ => ⟨y, hy, (ih y hy).1 h⟩, fun ⟨y, hy, h⟩ => ⟨y, hy, (ih y hy).2 h⟩⟩
  · rw [L_6]
    exact ⟨fun _ => .nil, fun _ => rfl⟩
  · have := @L_0 k s l [] h2 h3 h4 h5 h6
    simp [nb, beq_f h2, beq_f h4, beq_f h5, beq_f h6, this]

/-! ### union -/
theorem mem_addU {ks : List T_Regex} {k a : T_Regex} : a ∈ addU ks k ↔ a ∈ ks ∨ a = k := by
  unfold addU
  split
  · rename_i h
    exact ⟨.inl, fun h' => h'.elim id fun e => e ▸ h⟩
  · simp
theorem mem_foldU (l : List T_Regex) : ∀ ks a, a ∈ l.foldl addU ks ↔ a ∈ ks ∨ a ∈ l := by
  induction l with
  | nil => simp
  | cons y l ih =>
    intro ks a
    rw [List.foldl_cons, ih, mem_addU, List.mem_cons, or_assoc]
theorem mem_unl {l : List T_Regex} {a : T_Regex} : a ∈ unl l ↔ ∃ r ∈ l, a ∈ alts r := by
  unfold unl
  rw [mem_foldU, List.mem_flatMap]
  simp
theorem nodup_addU {ks : List T_Regex} {k : T_Regex} (h : ks.Nodup) : (addU ks k).Nodup := by
  unfold addU
  split
  · exact h
  · rename_i hk
    rw [List.nodup_append]
    exact ⟨h, by simp, fun a ha b hb => by simp at hb; subst hb; exact fun e => hk (e ▸ ha)⟩
theorem nodup_foldU (l : List T_Regex) : ∀ ks, ks.Nodup → (l.foldl addU ks).Nodup := by
  induction l with
  | nil => exact fun _ h => h
  | cons y l ih => exact fun ks h => ih _ (nodup_addU h)
theorem nodup_unl (l : List T_Regex) : (unl l).Nodup := nodup_foldU _ _ List.nodup_nil
theorem nodup_len {α : Type} {l : List α} : ∀ {m : List α}, l.Nodup → (∀ x ∈ l, x ∈ m) → l.length ≤ m.length := by
  induction l with
  | nil => intro m _ _; simp
  | cons a l ih =>
    intro m hn h
    have ha := h a (by simp)
    obtain ⟨m1, m2, rfl⟩ := List.append_of_mem ha
    rw [List.nodup_cons] at hn
    have := ih (m := m1 ++ m2) hn.2 (fun x hx => by
      have hm := h x (List.mem_cons_of_mem _ hx)
      simp only [List.mem_append, List.mem_cons] at hm ⊢
      rcases hm with hm | rfl | hm
      · exact .inl hm
      · exact absurd hx hn.1
      · exact .inr hm)
    simp only [List.length_append, List.length_cons] at this ⊢
    omega
theorem L_alts {r : T_Regex} {w : List Nat} : L r w ↔ ∃ a ∈ alts r, L a w := by
  obtain ⟨k, s, l⟩ := r
  unfold alts
  by_cases h : k = 5
  · subst h
    rw [L_5, LU_iff]
    simp only [beq_self_eq_true, cond_true, List.mem_filter]
    exact ⟨fun ⟨y, hy, h⟩ => ⟨y, ⟨hy, bne_t fun e => L_k1 e h⟩, h⟩, fun ⟨y, hy, h⟩ => ⟨y, hy.1, h⟩⟩
  · simp only [beq_f h, cond_false, List.mem_filter, List.mem_singleton]
    exact ⟨fun h' => ⟨_, ⟨rfl, bne_t fun e => L_k1 e h'⟩, h'⟩, fun ⟨y, hy, h⟩ => hy.1 ▸ h⟩
theorem wr5_L {e : T_Regex} {l : List T_Regex} {w : List Nat} (he : ∀ w, ¬ L e w) : L (wr 5 e l) w ↔ ∃ y ∈ l, L y w := by
  match l with
  | [] => simp [wr, he]
  | [y] => simp [wr]
  | y :: z :: l => rw [wr, L_5, LU_iff]
theorem un_L {l : List T_Regex} {w : List Nat} : L (un l) w ↔ ∃ r ∈ l, L r w := by
  unfold un
  rw [wr5_L (e := rNone) fun w => (L_1 : ¬ L rNone w)]
  constructor
  · rintro ⟨a, ha, h⟩
    obtain ⟨r, hr, hra⟩ := mem_unl.1 ha
    exact ⟨r, hr, L_alts.2 ⟨a, hra, h⟩⟩
  · rintro ⟨r, hr, h⟩
    obtain ⟨a, ha, h⟩ := L_alts.1 h
    exact ⟨a, mem_unl.2 ⟨r, hr, ha⟩, h⟩

/-! ### concatenation -/
theorem LC_ne {l : List T_Regex} : ∀ {w : List Nat}, LC (ne l) w ↔ LC l w := by
  induction l with
  | nil => intro w; rfl
  | cons y l ih =>
    intro w
    unfold ne
    by_cases h : y.Kind = 2
    · rw [List.filter_cons, if_neg (by simp [h])]
      show LC (ne l) w ↔ _
      rw [ih]
      simp only [LC]
      constructor
      · exact fun h' => ⟨[], w, rfl, (L_k2 h).2 rfl, h'⟩
      · rintro ⟨u, v, rfl, hu, hv⟩
        rw [(L_k2 h).1 hu]
        exact hv
    · rw [List.filter_cons, if_pos (by simp [h])]
      show LC (y :: ne l) w ↔ _
      simp only [LC, ih]
theorem LC_mem {l : List T_Regex} : ∀ {w : List Nat}, LC l w → ∀ y ∈ l, ∃ u, L y u := by
  induction l with
  | nil => intro w _ y hy; cases hy
  | cons z l ih =>
    rintro w ⟨u, v, rfl, hu, hv⟩ y hy
    rcases List.mem_cons.1 hy with rfl | hy
    · exact ⟨u, hu⟩
    · exact ih hv y hy
theorem ct_L {l : List T_Regex} {w : List Nat} : L (ct l) w ↔ LC l w := by
  unfold ct
  split
  · rename_i e he
    have h1 : e.Kind = 1 := by simpa using List.find?_some he
    exact ⟨fun h => absurd h (L_k1 h1), fun h => by obtain ⟨u, hu⟩ := LC_mem h e (List.mem_of_find?_eq_some he); exact absurd hu (L_k1 h1)⟩
  · rw [← LC_ne]
    match ne l with
    | [] => rw [wr, LC]; exact L_2
    | [y] => simp [wr, LC]
    | y :: z :: l => rw [wr, L_4]

/-! ### the derivative -/
theorem cons_eq_append {b : Nat} {w u v : List Nat} : b :: w = u ++ v ↔ (u = [] ∧ v = b :: w) ∨ ∃ u', u = b :: u' ∧ w = u' ++ v := by
  cases u with
  | nil => simp [eq_comm]
  | cons c u =>
    simp only [List.cons_append, List.cons.injEq, reduceCtorEq, false_and, false_or]
    exact ⟨fun ⟨h1, h2⟩ => ⟨u, ⟨h1.symm, rfl⟩, h2⟩, fun ⟨u', ⟨h1, h2⟩, h3⟩ => ⟨h1.symm, h2 ▸ h3⟩⟩
theorem St_cons {P : List Nat → Prop} {b : Nat} {w : List Nat} : St P (b :: w) ↔ ∃ u v, w = u ++ v ∧ P (b :: u) ∧ St P v := by
  constructor
  · intro h
    generalize hx : b :: w = x at h
    induction h with
    | nil => cases hx
    | @cons u v hu hv ih =>
      rcases cons_eq_append.1 hx with ⟨rfl, rfl⟩ | ⟨u', rfl, rfl⟩
      · exact ih rfl
      · exact ⟨u', v, rfl, hu, hv⟩
  · rintro ⟨u, v, rfl, hu, hv⟩
    exact .cons (u := b :: u) hu hv
theorem LC_cons {y : T_Regex} {l : List T_Regex} {b : Nat} {w : List Nat} :
    LC (y :: l) (b :: w) ↔ (L y [] ∧ LC l (b :: w)) ∨ ∃ u v, w = u ++ v ∧ L y (b :: u) ∧ LC l v := by
  simp only [LC]
  constructor
  · rintro ⟨u, v, h, hu, hv⟩
    rcases cons_eq_append.1 h with ⟨rfl, rfl⟩ | ⟨u', rfl, rfl⟩
    · exact .inl ⟨hu, hv⟩
    · exact .inr ⟨u', v, rfl, hu, hv⟩
  · rintro (⟨hu, hv⟩ | ⟨u, v, rfl, hu, hv⟩)
    · exact ⟨[], _, rfl, hu, hv⟩
    · exact ⟨b :: u, v, rfl, hu, hv⟩
theorem drC_L {l : List T_Regex} {b : Nat} : ∀ {w : List Nat}, (∀ y ∈ l, ∀ w, L (dr y b) w ↔ L y (b :: w)) → ((∃ r ∈ drC l b, L r w) ↔ LC l (b :: w)) := by
  induction l with
  | nil => intro w _; simp [drC, LC]
  | cons y l ih =>
    intro w h
    rw [LC_cons, drC]
    simp only [ex_cons, ct_L]
    have h1 : LC (dr y b :: l) w ↔ ∃ u v, w = u ++ v ∧ L y (b :: u) ∧ LC l v := by simp only [LC, h y (by simp)]
    rw [h1, ← nb_iff]
    cases hn : nb y
    · simp
    · have := ih (w := w) fun z hz => h z (List.mem_cons_of_mem _ hz)
      simp only [cond_true, this, true_and]
      exact or_comm
theorem drL_L {l : List T_Regex} {b : Nat} {w : List Nat} (h : ∀ y ∈ l, ∀ w, L (dr y b) w ↔ L y (b :: w)) : (∃ r ∈ drL l b, L r w) ↔ LU l (b :: w) := by
  induction l with
  | nil => simp [drL, LU]
  | cons y l ih =>
    rw [drL, LU]
    simp only [ex_cons, h y (by simp), ih fun z hz => h z (List.mem_cons_of_mem _ hz)]
theorem dr_L : ∀ x b w, L (dr x b) w ↔ L x (b :: w) := by
  intro x b
  revert x
  refine T_Regex.ind fun k s l ih w => ?_
  rcases dispatch k with rfl | rfl | rfl | rfl | rfl | ⟨h2, h3, h4, h5, h6⟩
  · rw [L_2]
    simp [dr, rNone, L_1]
  · rw [L_3]
    simp only [dr, beq_self_eq_true, cond_true]
    cases hm : mem s b
    · simp only [cond_false]
      refine ⟨fun h => absurd h L_1, ?_⟩
      rintro ⟨c, hc, h⟩
      simp only [List.cons.injEq] at hc
      rw [← hc.1, hm] at h
      cases h
    · simp only [cond_true]
      refine L_2.trans ⟨fun h => ⟨b, by rw [h], hm⟩, ?_⟩
      rintro ⟨c, hc, h⟩
      simp only [List.cons.injEq] at hc
      exact hc.2
  · rw [L_4]
    show L (un (drC l b)) w ↔ _
    rw [un_L, drC_L ih]
  · rw [L_5]
    show L (un (drL l b)) w ↔ _
    rw [un_L, drL_L ih]
  · rw [L_6]
    show L (ct [(drL l b).headD rNone, ⟨6, s, l⟩]) w ↔ _
    rw [ct_L, St_cons]
    have hh : ∀ u, L ((drL l b).headD rNone) u ↔ LH l (b :: u) := by
      intro u
      cases l with
      | nil => simp [drL, LH, rNone, L_1]
      | cons y l => simp [drL, LH, ih]
    simp only [LC, hh, L_6]
    constructor
    · rintro ⟨u, v, rfl, hu, v1, v2, rfl, hv, rfl⟩
      exact ⟨u, v1, by simp, hu, hv⟩
    · rintro ⟨u, v, rfl, hu, hv⟩
      exact ⟨u, v, rfl, hu, v, [], by simp, hv, rfl⟩
  · rw [iff_false_intro (L_0 h2 h3 h4 h5 h6)]
    simp [dr, beq_f h3, beq_f h4, beq_f h5, beq_f h6, rNone, L_1]
noncomputable def drs (x : T_Regex) (w : List Nat) : T_Regex := w.foldl dr x
theorem drs_L (w : List Nat) : ∀ x u, L (drs x w) u ↔ L x (w ++ u) := by
  induction w with
  | nil => intro x u; rfl
  | cons b w ih =>
    intro x u
    show L (drs (dr x b) w) u ↔ _
    rw [ih, dr_L]
    rfl
end Go.Proofs.Ytajmekjcnbmaaaa
