/- Plain facts on layer 8: the laws on matching. -/
import Derived.Test.YtffienmbeifioaaDoorPl08f
namespace Go.Proofs.YtffienmbeifioaaDoor
open Go.Lx
open Classical

theorem shape_star {s : Vec 4} {n : Nat} (h : shape 6 s n = true) : n = 1 := by
  simp [shape] at h; exact h.1
theorem shape_12 {k : Int} {s : Vec 4} {n : Nat} (hk : k = 1 ∨ k = 2) (h : shape k s n = true) : n = 0 ∧ s = Vec.zero 4 := by
  rcases hk with rfl | rfl
  · simp only [shape, beq_self_eq_true, Bool.true_or, cond_true, Bool.and_eq_true, beq_iff_eq] at h; exact h
  · simp only [shape, beq_self_eq_true, Bool.or_true, cond_true, Bool.and_eq_true, beq_iff_eq] at h; exact h
theorem fit_of_valid : ∀ x d, okT_Regex x → V d x = true → parts x ≤ 1000 → Fit x := by
  refine T_Regex.ind fun k s l ih d ok hv hp => ?_
  have hpl : partsL l + 1 ≤ 1000 := hp
  have hlen := len_parts l
  cases d with
  | zero => cases hv
  | succ d =>
    rw [V, Bool.and_eq_true, List.all_eq_true] at hv
    obtain ⟨hs, hv⟩ := hv
    have he : ∀ j, k = j → j = 1 ∨ j = 2 → (⟨k, s, l⟩ : T_Regex) = ⟨j, Vec.zero 4, []⟩ := fun j e hj => by
      subst e
      obtain ⟨h1, h2⟩ := shape_12 hj hs
      have h2 : s = Vec.zero 4 := h2
      have h1 : l = [] := List.eq_nil_of_length_eq_zero h1
      rw [h2, h1]
    refine .mk _ (w4_of (ok_set ok)) (by show l.length ≤ big; unfold big; omega) (fun e => ?_) (fun e => he 1 e (.inl rfl)) (fun e => he 2 e (.inr rfl))
      (fun y hy => ih y hy d (ok_kids ok y hy) (hv y hy) (by have : parts y ≤ partsL l := parts_mem hy; omega))
    obtain rfl : k = 6 := e
    have := shape_star hs
    exact List.length_eq_one_iff.1 this
theorem Depth_ok : ∀ fl x, okT_Regex x → height x < fl → height x ≤ 1000 → M.ref08_Depth fl x = some (height x : Int) := by
  intro fl
  induction fl with
  | zero => intro a _ h; omega
  | succ fl ih =>
    rintro ⟨k, s, l⟩ ok hh hb
    have hl : l.length ≤ 9223372036854775807 := Nat.le_trans (ok_len ok) (by decide)
    unfold M.ref08_Depth
    refine Is.eq ?_
    refine Is.bnd (P := fun r => r = ((heightL l : Nat) : Int)) ?_ ?_
    · refine Is.upto (fun i (st : Int × Int) => st.2 = (i : Int) ∧ st.1 = ((heightL (l.take i) : Nat) : Int)) l.length hl ⟨rfl, by simp [heightL]⟩ ?_ ?_
      · rintro i ⟨a, _⟩ hi ⟨rfl, h1⟩
        obtain rfl : a = _ := h1
        have hk := height_kid (x := ⟨k, s, l⟩) (List.getElem_mem hi)
        refine Is.dt (show (i : Int) < (l.length : Int) by omega) (Is.bnq (idxL_nat hi) (Is.bnq (ih _ (ok_kids ok _ (List.getElem_mem hi)) (by omega) (by omega)) (Is.bnq (chk_succ (by omega)) (Is.next ⟨rfl, ?_⟩))))
        rw [List.take_add_one, List.getElem?_eq_getElem hi, heightL_append]
        simp only [max2, Option.toList, heightL]
        split <;> omega
      · rintro ⟨a, _⟩ ⟨rfl, h1⟩
        obtain rfl : a = _ := h1
        refine Is.df (show ¬ (l.length : Int) < (l.length : Int) by omega) (Is.stop ?_)
        rw [List.take_length]
    · rintro _ rfl
      have : height (⟨k, s, l⟩ : T_Regex) = heightL l + 1 := rfl
      exact Is.bnq (chk_succ (by omega)) (Is.pure (by rw [this]))
theorem small_ok {x : T_Regex} {n : Nat} (ok : okT_Regex x) (hn : n ≤ 900) : Is (M.law08_small x n) (fun b => b = true → parts x ≤ n + 1 ∧ height x ≤ 8 ∧ Fit x) := by
  unfold M.law08_small
  refine Is.bnd (P := fun b => b = true → parts x ≤ n + 1 ∧ height x ≤ 8 ∧ Fit x) ?_ (fun b hb => Is.pure hb)
  refine Is.bnd (Few_ok ok (by omega)) fun b hb => Is.cnd (fun h => ?_) (fun _ => Is.pure (by simp))
  obtain ⟨h1, h2⟩ := hb h
  refine Is.bnq (refValid_ok ok) (Is.cnd (fun hv => ?_) (fun _ => Is.pure (by simp)))
  refine Is.bnq (Depth_ok fuel x ok (by unfold fuel; omega) (by omega)) (Is.pure fun h3 => ?_)
  have := of_decide_eq_true h3
  exact ⟨h1, by omega, fit_of_valid x 30 ok hv (by omega)⟩

section
variable {P N H : Nat} (hP : 3 ≤ P) (hM : 1 ≤ N) (hB : P * P * N ^ H ≤ big) (hH : H ≤ 1000) {x : T_Regex} (hF : Fit x) (hp : parts x ≤ P) (hh : height x ≤ H)
include hP hM hB hH hF hp hh
theorem nb_drs {v : List Nat} (hv : v.length ≤ N) : M.regex_Nullable fuel (drs x v) = some (decide (L x v)) := by
  have := (fit_all hP hM hB x hF hp hh).2 v hv
  rw [nullable_ok fuel _ this.1 (by unfold fuel; omega)]
  congr 1
  rw [Bool.eq_iff_iff, nb_iff, drs_L]
  simp
theorem derive_loop {v : List Nat} {s : Str} (hv : v.length + s.length ≤ N) (hs : s.length ≤ 1000000) {body : Int × (Vec 4) × (List T_Regex) × Int → Option (Step (Int × (Vec 4) × (List T_Regex) × Int) (Int × (Vec 4) × (List T_Regex)))}
    (hb : ∀ a b c i, body (a, b, c, i) = bif decide (i < (s.length : Int)) then (idxS s i).bind fun c6 => (M.regex_Derive fuel (T_Regex.mk a b c) c6).bind fun rv => (chk .i64 (i + 1)).bind fun t => some (.next (rv.Kind, rv.Set, rv.Kids, t)) else some (.stop (a, b, c))) :
    loopM body fuel ((drs x v).Kind, (drs x v).Set, (drs x v).Kids, (0 : Int)) = some ((drs x (v ++ bytesOf s)).Kind, (drs x (v ++ bytesOf s)).Set, (drs x (v ++ bytesOf s)).Kids) := by
  refine Is.eq ?_
  have hbl := bytes_len s
  refine Is.upto (fun i (st : Int × (Vec 4) × (List T_Regex) × Int) => st = ((drs x (v ++ (bytesOf s).take i)).Kind, (drs x (v ++ (bytesOf s).take i)).Set, (drs x (v ++ (bytesOf s).take i)).Kids, (i : Int))) s.length (by omega) (by simp) ?_ ?_
  · rintro i _ hi rfl
    rw [hb]
    refine Is.dt (by omega) (Is.bnq (idxS_nat hi) ?_)
    have hlen : (v ++ (bytesOf s).take i).length < N := by rw [List.length_append, List.length_take]; omega
    have hg := (gd_all hP hM hB hH x hF hp hh).2.2 _ hlen
    have hf := (fit_all hP hM hB x hF hp hh).2 _ (Nat.le_of_lt hlen)
    have hd := hg (s[i]).toNat (u8_ok _) fuel (Nat.lt_of_le_of_lt hf.2 (by unfold fuel; omega))
    generalize hy : drs x (v ++ (bytesOf s).take i) = y at hd ⊢
    have hd : M.regex_Derive fuel (T_Regex.mk y.Kind y.Set y.Kids) ((s[i]).toNat : Int) = some (dr y (s[i]).toNat) := by cases y; exact hd
    refine Is.bnq hd (Is.bnq (chk_succ (i := i) (by omega)) (Is.next ?_))
    have e : v ++ (bytesOf s).take (i + 1) = (v ++ (bytesOf s).take i) ++ [(s[i]).toNat] := by
      rw [List.take_add_one, bytes_get hi, List.append_assoc]; rfl
    rw [e, drs_snoc, hy]
  · rintro _ rfl
    rw [hb]
    refine Is.df (by omega) (Is.stop ?_)
    rw [← hbl, List.take_length]
theorem match_from {v : List Nat} {s : Str} (hv : v.length + s.length ≤ N) (hs : s.length ≤ 1000000) : M.regex_Match (drs x v) s = some (decide (L x (v ++ bytesOf s))) := by
  unfold M.regex_Match
  rw [derive_loop hP hM hB hH hF hp hh hv hs (fun _ _ _ _ => rfl)]
  show (M.regex_Nullable fuel (drs x (v ++ bytesOf s))).bind _ = _
  rw [nb_drs hP hM hB hH hF hp hh (by rw [List.length_append, bytes_len]; exact hv)]
  rfl
theorem match_ok {s : Str} (hs : s.length ≤ N) (hs2 : s.length ≤ 1000000) : M.regex_Match x s = some (decide (L x (bytesOf s))) :=
  match_from hP hM hB hH hF hp hh (v := []) (by simpa using hs) hs2
end
theorem law_match (x0 : T_Regex) (ok0 : okT_Regex x0) (x1 : Str) (_ : (fun s : Str => s.length ≤ maxLen) x1) : M.law08_RegexMatch x0 x1 = some true := by
  refine Is.eq ?_
  unfold M.law08_RegexMatch
  refine Is.bnd (P := fun b => b = false → parts x0 ≤ 41 ∧ height x0 ≤ 8 ∧ Fit x0 ∧ x1.length ≤ 12) ?_ fun b hb => ?_
  · refine Is.bnd (small_ok (n := 40) ok0 (by omega)) fun b hb => Is.cnd (fun _ => Is.pure (by simp)) (fun h => Is.pure fun h2 => ?_)
    have := hb (by simpa using h)
    have h2 := of_decide_eq_false h2
    exact ⟨this.1, this.2.1, this.2.2, by omega⟩
  refine Is.cnd (fun _ => Is.bnq awake_true (Is.pure rfl)) (fun h => ?_)
  obtain ⟨h1, h2, h3, h4⟩ := hb h
  have hm := match_ok (P := 41) (N := 12) (H := 8) (by decide) (by decide) (by decide) (by decide) h3 h1 h2 h4 (by omega)
  have hn := nb_drs (P := 41) (N := 12) (H := 8) (by decide) (by decide) (by decide) (by decide) h3 h1 h2 (v := []) (by simp)
  have hFH : FH x0 := ⟨h3, by unfold fuel; omega⟩
  refine Is.bnq (x := true) ?_ (Is.pure rfl)
  rw [show M.regex_Nullable fuel x0 = _ from hn]
  have r0 := refMatch_ok hFH (s := []) (by simp)
  rw [show bytesOf [] = [] from rfl] at r0
  simp only [awake_true, hm, refMatch_ok hFH (show x1.length ≤ 1000000 by omega), r0, Option.bind_some, cond_true, beq_self_eq_true]
theorem law_derive (x0 : T_Regex) (ok0 : okT_Regex x0) (x1 : Int) (ok1 : (IOk .u8) x1) (x2 : Str) (_ : (fun s : Str => s.length ≤ maxLen) x2) : M.law08_RegexDerive x0 x1 x2 = some true := by
  obtain ⟨b, rfl, hb8⟩ := iok_u8 ok1
  refine Is.eq ?_
  unfold M.law08_RegexDerive
  refine Is.bnd (P := fun b => b = false → parts x0 ≤ 26 ∧ height x0 ≤ 8 ∧ Fit x0 ∧ x2.length ≤ 8) ?_ fun c hb => ?_
  · refine Is.bnd (small_ok (n := 25) ok0 (by omega)) fun b hb => Is.cnd (fun _ => Is.pure (by simp)) (fun h => Is.pure fun h2 => ?_)
    have := hb (by simpa using h)
    have h2 := of_decide_eq_false h2
    exact ⟨this.1, this.2.1, this.2.2, by omega⟩
  refine Is.cnd (fun _ => Is.bnq awake_true (Is.pure rfl)) (fun h => ?_)
  obtain ⟨h1, h2, h3, h4⟩ := hb h
  have hFH : FH x0 := ⟨h3, by unfold fuel; omega⟩
  have hd : M.regex_Derive fuel x0 b = some (drs x0 [b]) := (gd_all (P := 26) (M := 9) (H := 8) (by decide) (by decide) (by decide) (by decide) x0 h3 h1 h2).1 x0 (.inl rfl) b hb8 fuel (by unfold fuel; omega)
  have hm := match_from (P := 26) (N := 9) (H := 8) (by decide) (by decide) (by decide) (by decide) h3 h1 h2 (v := [b]) (s := x2) (by simp; omega) (by omega)
  have hn := nb_drs (P := 26) (N := 9) (H := 8) (by decide) (by decide) (by decide) (by decide) h3 h1 h2 (v := [b]) (by simp)
  have hc : catS (toStr [(b : Int)]) x2 = some (toStr [(b : Int)] ++ x2) := by unfold catS; rw [if_pos (by simp [toStr]; omega)]
  have e1 : bytesOf (toStr [(b : Int)] ++ x2) = [b] ++ bytesOf x2 := by
    simp [bytesOf, toStr, UInt8.toNat_ofNat']; omega
  have e2 : bytesOf (toStr [(b : Int)]) = [b] := by
    simp [bytesOf, toStr, UInt8.toNat_ofNat']; omega
  have r1 := refMatch_ok hFH (s := toStr [(b : Int)] ++ x2) (by simp [toStr]; omega)
  have r2 := refMatch_ok hFH (s := toStr [(b : Int)]) (by simp [toStr])
  rw [e1] at r1
  rw [e2] at r2
  refine Is.bnq hd (Is.bnq (x := true) ?_ (Is.pure rfl))
  simp only [awake_true, hm, hc, r1, r2, hn, Option.bind_some, cond_true, beq_self_eq_true]
theorem law_deriveAll (x0 : T_Regex) (ok0 : okT_Regex x0) (x1 : Str) (_ : (fun s : Str => s.length ≤ maxLen) x1) : M.law08_RegexDeriveAll x0 x1 = some true := by
  refine Is.eq ?_
  unfold M.law08_RegexDeriveAll
  refine Is.bnd (P := fun b => b = false → parts x0 ≤ 21 ∧ height x0 ≤ 8 ∧ Fit x0 ∧ x1.length ≤ 6) ?_ fun b hb => ?_
  · refine Is.bnd (small_ok (n := 20) ok0 (by omega)) fun b hb => Is.cnd (fun _ => Is.pure (by simp)) (fun h => Is.pure fun h2 => ?_)
    have := hb (by simpa using h)
    have h2 := of_decide_eq_false h2
    exact ⟨this.1, this.2.1, this.2.2, by omega⟩
  refine Is.cnd (fun _ => Is.bnq awake_true (Is.pure rfl)) (fun h => ?_)
  obtain ⟨h1, h2, h3, h4⟩ := hb h
  have hFH : FH x0 := ⟨h3, by unfold fuel; omega⟩
  have hn := nb_drs (P := 21) (N := 6) (H := 8) (by decide) (by decide) (by decide) (by decide) h3 h1 h2 (v := bytesOf x1) (by rw [bytes_len]; exact h4)
  refine Is.bnq (derive_loop (P := 21) (N := 6) (H := 8) (by decide) (by decide) (by decide) (by decide) h3 h1 h2 (v := []) (s := x1) (by simpa using h4) (by omega) (fun _ _ _ _ => rfl)) (Is.bnq (x := true) ?_ (Is.pure rfl))
  show (M.law08_awake.bind fun rv14 => bif rv14 then (M.regex_Nullable fuel (drs x0 (bytesOf x1))).bind fun rv15 => (M.ref08_Match x0 x1).bind fun rv16 => some (rv15 == rv16) else some false) = some true
  simp only [awake_true, hn, refMatch_ok hFH (show x1.length ≤ 1000000 by omega), Option.bind_some, cond_true, beq_self_eq_true]

/-! ### the algebra -/
theorem two_split {A B : List Nat → Prop} {w : List Nat} : (∃ u v, w = u ++ v ∧ A u ∧ B v) ↔ ∃ j, j ≤ w.length ∧ A (w.take j) ∧ B (w.drop j) := by
  constructor
  · rintro ⟨u, v, rfl, ha, hb⟩
    exact ⟨u.length, by simp, by simpa using ha, by simpa using hb⟩
  · rintro ⟨j, _, ha, hb⟩
    exact ⟨_, _, (List.take_append_drop j w).symm, ha, hb⟩
theorem star_split {A : List Nat → Prop} {w : List Nat} : St A w ↔ w = [] ∨ ∃ j, 0 < j ∧ j ≤ w.length ∧ A (w.take j) ∧ St A (w.drop j) := by
  cases w with
  | nil => exact ⟨fun _ => .inl rfl, fun _ => .nil⟩
  | cons b w =>
    rw [St_cons, two_split (A := fun u => A (b :: u)) (B := St A)]
    constructor
    · rintro ⟨j, hj, h1, h2⟩
      exact .inr ⟨j + 1, by omega, by simpa using hj, by simpa using h1, by simpa using h2⟩
    · rintro (h | ⟨j, h0, hj, h1, h2⟩)
      · cases h
      · obtain ⟨j, rfl⟩ : ∃ i, j = i + 1 := ⟨j - 1, by omega⟩
        exact ⟨j, by simpa using hj, by simpa using h1, by simpa using h2⟩
theorem bytes_take (s : Str) (i : Nat) : bytesOf (s.take i) = (bytesOf s).take i := by simp [bytesOf, List.map_take]
theorem bytes_drop (s : Str) (i : Nat) : bytesOf (s.drop i) = (bytesOf s).drop i := by simp [bytesOf, List.map_drop]
theorem sub_take {s : Str} {i : Nat} (h : i ≤ s.length) : subL s 0 (i : Int) = some (s.take i) := by
  unfold subL
  rw [if_pos ⟨by omega, by omega, by omega⟩]
  simp
theorem sub_dropS {s : Str} {i : Nat} (h : i ≤ s.length) : subL s (i : Int) (s.length : Int) = some (s.drop i) := by
  unfold subL
  rw [if_pos ⟨by omega, by omega, by omega⟩]
  simp
theorem iok_kind {k : Int} (h : 0 ≤ k ∧ k ≤ 10) : IOk .i64 k := ⟨by show (-9223372036854775808 : Int) ≤ k; omega, by show k ≤ (9223372036854775807 : Int); omega⟩
theorem ok_node {k : Int} {l : List T_Regex} (hk : 0 ≤ k ∧ k ≤ 10) (hl : l.length ≤ 2) (h : ∀ y ∈ l, okT_Regex y) : okT_Regex ⟨k, Vec.zero 4, l⟩ :=
  .mk _ (iok_kind hk) (fun x hx => by simp [Vec.zero] at hx; subst hx; exact ⟨by decide, by decide⟩) h (Nat.le_trans hl (by decide))
theorem law_algebra (x0 : T_Regex) (ok0 : okT_Regex x0) (x1 : T_Regex) (ok1 : okT_Regex x1) (x2 : Str) (_ : (fun s : Str => s.length ≤ maxLen) x2) : M.law08_RegexAlgebra x0 x1 x2 = some true := by
  refine Is.eq ?_
  unfold M.law08_RegexAlgebra
  refine Is.bnd (P := fun b => b = false → (parts x0 ≤ 16 ∧ height x0 ≤ 8 ∧ Fit x0) ∧ (parts x1 ≤ 16 ∧ height x1 ≤ 8 ∧ Fit x1) ∧ x2.length ≤ 8) ?_ fun b hb => ?_
  · refine Is.bnd (small_ok (n := 15) ok0 (by omega)) fun b hb => Is.cnd (fun _ => Is.pure (by simp)) (fun h => ?_)
    refine Is.bnd (small_ok (n := 15) ok1 (by omega)) fun c hc => Is.cnd (fun _ => Is.pure (by simp)) (fun h' => Is.pure fun h2 => ?_)
    have h2 := of_decide_eq_false h2
    exact ⟨hb (by simpa using h), hc (by simpa using h'), by omega⟩
  refine Is.cnd (fun _ => Is.bnq awake_true (Is.pure rfl)) (fun h => ?_)
  obtain ⟨⟨a1, a2, a3⟩, ⟨b1, b2, b3⟩, h4⟩ := hb h
  have okB : okT_Regex ⟨4, Vec.zero 4, [x0, x1]⟩ := ok_node (by omega) (by simp) (by simp [ok0, ok1])
  have okM : okT_Regex ⟨6, Vec.zero 4, [x0]⟩ := ok_node (by omega) (by simp) (by simp [ok0])
  refine Is.bnd (P := fun _ => True) ?_ fun c _ => Is.cnd (fun _ => Is.bnq awake_true (Is.pure rfl)) (fun _ => ?_)
  · refine Is.bnq (refValid_ok okB) (Is.cnd (fun _ => Is.pure trivial) (fun _ => Is.bnq (refValid_ok okM) (Is.pure trivial)))
  have fB : Fit ⟨4, Vec.zero 4, [x0, x1]⟩ := fit_node (.inl rfl) (by show 2 ≤ big; decide) (by simp [a3, b3])
  have fU : Fit ⟨5, Vec.zero 4, [x0, x1]⟩ := fit_node (.inr rfl) (by show 2 ≤ big; decide) (by simp [a3, b3])
  have fM : Fit ⟨6, Vec.zero 4, [x0]⟩ := .mk _ W4_zero (by show 1 ≤ big; decide) (fun _ => ⟨x0, rfl⟩) (fun e => by simp at e) (fun e => by simp at e) (by simp [a3])
  have hbl := bytes_len x2
  have mm : ∀ (x : T_Regex) (s : Str), Fit x → parts x ≤ 33 → height x ≤ 9 → s.length ≤ 8 → M.regex_Match x s = some (decide (L x (bytesOf s))) := fun x s hF hp hh hs =>
    match_ok (P := 33) (N := 8) (H := 9) (by decide) (by decide) (by decide) (by decide) hF hp hh hs (by omega)
  have pB : parts (⟨4, Vec.zero 4, [x0, x1]⟩ : T_Regex) ≤ 33 := by simp only [parts, partsL]; omega
  have hhB : height (⟨4, Vec.zero 4, [x0, x1]⟩ : T_Regex) ≤ 9 := by simp only [height, heightL]; omega
  have pU : parts (⟨5, Vec.zero 4, [x0, x1]⟩ : T_Regex) ≤ 33 := by simp only [parts, partsL]; omega
  have hhU : height (⟨5, Vec.zero 4, [x0, x1]⟩ : T_Regex) ≤ 9 := by simp only [height, heightL]; omega
  have pM : parts (⟨6, Vec.zero 4, [x0]⟩ : T_Regex) ≤ 33 := by simp only [parts, partsL]; omega
  have hhM : height (⟨6, Vec.zero 4, [x0]⟩ : T_Regex) ≤ 9 := by simp only [height, heightL]; omega
  refine Is.bnd (P := fun r => r = (decide (L ⟨4, Vec.zero 4, [x0, x1]⟩ (bytesOf x2)), decide (L ⟨6, Vec.zero 4, [x0]⟩ (bytesOf x2)))) ?_ ?_
  · have e4 : L ⟨4, Vec.zero 4, [x0, x1]⟩ (bytesOf x2) ↔ ∃ j, j < x2.length + 1 ∧ L x0 ((bytesOf x2).take j) ∧ L x1 ((bytesOf x2).drop j) := by
      rw [L_4]
      have : LC [x0, x1] (bytesOf x2) ↔ ∃ u v, bytesOf x2 = u ++ v ∧ L x0 u ∧ L x1 v := by simp [LC]
      rw [this, two_split, hbl]
      exact ⟨fun ⟨j, a, b⟩ => ⟨j, by omega, b⟩, fun ⟨j, a, b⟩ => ⟨j, by omega, b⟩⟩
    have e6 : L ⟨6, Vec.zero 4, [x0]⟩ (bytesOf x2) ↔ x2 = [] ∨ ∃ j, j < x2.length + 1 ∧ 0 < j ∧ L x0 ((bytesOf x2).take j) ∧ L ⟨6, Vec.zero 4, [x0]⟩ ((bytesOf x2).drop j) := by
      simp only [L_6]
      rw [show LH [x0] = L x0 from rfl]
      refine star_split.trans (or_congr (by simp [bytesOf]) ?_)
      rw [hbl]
      exact ⟨fun ⟨j, a, b, c⟩ => ⟨j, by omega, a, c⟩, fun ⟨j, a, b, c⟩ => ⟨j, b, by omega, c⟩⟩
    refine Is.upto (fun i (st : Bool × Bool × Int) => st.2.2 = (i : Int) ∧ (st.1 = true ↔ ∃ j, j < i ∧ L x0 ((bytesOf x2).take j) ∧ L x1 ((bytesOf x2).drop j)) ∧
      (st.2.1 = true ↔ x2 = [] ∨ ∃ j, j < i ∧ 0 < j ∧ L x0 ((bytesOf x2).take j) ∧ L ⟨6, Vec.zero 4, [x0]⟩ ((bytesOf x2).drop j))) (x2.length + 1) (by omega) ⟨rfl, by simp, by simp⟩ ?_ ?_
    · rintro i ⟨p, q, _⟩ hi ⟨rfl, hp, hq⟩
      simp only at hp hq
      dsimp only
      refine Is.dt (show (i : Int) ≤ (x2.length : Int) by omega) ?_
      have m0 := mm x0 (x2.take i) a3 (by omega) (by omega) (by rw [List.length_take]; omega)
      have m1 := mm x1 (x2.drop i) b3 (by omega) (by omega) (by rw [List.length_drop]; omega)
      have m2 := mm ⟨6, Vec.zero 4, [x0]⟩ (x2.drop i) fM pM hhM (by rw [List.length_drop]; omega)
      rw [bytes_take] at m0
      rw [bytes_drop] at m1 m2
      have s0 := sub_take (s := x2) (i := i) (by omega)
      have s1 := sub_dropS (s := x2) (i := i) (by omega)
      have ex : ∀ (R : Nat → Prop), (∃ j, j < i + 1 ∧ R j) ↔ (∃ j, j < i ∧ R j) ∨ R i := fun R => by
        constructor
        · rintro ⟨j, h1, h2⟩
          by_cases e : j = i
          · exact .inr (e ▸ h2)
          · exact .inl ⟨j, by omega, h2⟩
        · rintro (⟨j, h1, h2⟩ | h)
          · exact ⟨j, by omega, h2⟩
          · exact ⟨i, by omega, h⟩
      refine Is.bnd (P := fun r => r = true ↔ ∃ j, j < i + 1 ∧ L x0 ((bytesOf x2).take j) ∧ L x1 ((bytesOf x2).drop j)) ?_ fun p2 hp2 => ?_
      · rw [ex]
        refine Is.cnd (fun h => Is.pure ?_) (fun h => ?_)
        · exact ⟨fun _ => .inl (hp.1 h), fun _ => rfl⟩
        · rw [← hp, h]
          refine Is.bnq s0 (Is.bnq m0 (Is.dcd (fun h0 => Is.bnq s1 (Is.bnq m1 (Is.pure ?_))) (fun h0 => Is.pure ?_)))
          · simp [h0]
          · simp [h0]
      · have hp2 := hp2
        have goal : ∀ r : Bool, (r = true ↔ q = true ∨ (0 < i ∧ L x0 ((bytesOf x2).take i) ∧ L ⟨6, Vec.zero 4, [x0]⟩ ((bytesOf x2).drop i))) → Is ((chk .i64 ((i : Int) + 1)).bind fun t => some (Step.next (p2, r, t)))
            (SP (ρ := Bool × Bool) (fun st : Bool × Bool × Int => st.2.2 = ((i + 1 : Nat) : Int) ∧ (st.1 = true ↔ ∃ j, j < i + 1 ∧ L x0 ((bytesOf x2).take j) ∧ L x1 ((bytesOf x2).drop j)) ∧
      (st.2.1 = true ↔ x2 = [] ∨ ∃ j, j < i + 1 ∧ 0 < j ∧ L x0 ((bytesOf x2).take j) ∧ L ⟨6, Vec.zero 4, [x0]⟩ ((bytesOf x2).drop j))) (fun r => r = (decide (L ⟨4, Vec.zero 4, [x0, x1]⟩ (bytesOf x2)), decide (L ⟨6, Vec.zero 4, [x0]⟩ (bytesOf x2))))) := by
          intro r hr
          refine Is.bnq (chk_succ (by omega)) (Is.next ⟨rfl, hp2, ?_⟩)
          show r = true ↔ _
          rw [hr, hq, ex (fun j => 0 < j ∧ L x0 ((bytesOf x2).take j) ∧ L ⟨6, Vec.zero 4, [x0]⟩ ((bytesOf x2).drop j)), or_assoc]
        refine Is.cnd (fun h => goal true (by simp [h])) (fun h => Is.dcd (fun h0 => ?_) (fun h0 => goal false ?_))
        · refine Is.bnq s0 (Is.bnq m0 (Is.dcd (fun h1 => Is.bnq s1 (Is.bnq m2 (goal _ ?_))) (fun h1 => goal false ?_)))
          · have : 0 < i := by omega
            simp [h, h1, this]
          · simp [h, h1]
        · have : ¬ 0 < i := by omega
          simp [h, this]
    · rintro ⟨p, q, _⟩ ⟨rfl, hp, hq⟩
      simp only at hp hq
      refine Is.df (show ¬ ((x2.length + 1 : Nat) : Int) ≤ (x2.length : Int) by omega) (Is.stop ?_)
      rw [← e4] at hp
      rw [← e6] at hq
      rw [Prod.mk.injEq]
      exact ⟨by rw [Bool.eq_iff_iff, hp]; simp, by rw [Bool.eq_iff_iff, hq]; simp⟩
  · rintro _ rfl
    refine Is.bnq (x := true) ?_ (Is.pure rfl)
    have r1 := mm _ x2 fB pB hhB h4
    have r2 := mm _ x2 fU pU hhU h4
    have r3 := mm _ x2 fM pM hhM h4
    have r4 := mm x0 x2 a3 (by omega) (by omega) h4
    have r5 := mm x1 x2 b3 (by omega) (by omega) h4
    have e5 : L ⟨5, Vec.zero 4, [x0, x1]⟩ (bytesOf x2) ↔ L x0 (bytesOf x2) ∨ L x1 (bytesOf x2) := by rw [L_5]; simp [LU]
    simp only [awake_true, r1, r2, r3, r4, r5, Option.bind_some, cond_true, beq_self_eq_true, e5]
    by_cases h0 : L x0 (bytesOf x2)
    · simp [h0]
    · simp [h0]
end Go.Proofs.YtffienmbeifioaaDoor
