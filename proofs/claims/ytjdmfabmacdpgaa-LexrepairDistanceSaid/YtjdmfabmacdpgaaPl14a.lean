/- Plain facts on layer 14: what Distance computes; the laws on it that name no reference. -/
import Derived.Test.YtjdmfabmacdpgaaPlOsa
import Derived.Test.YtjdmfabmacdpgaaPl14n
namespace Go.Proofs.Ytjdmfabmacdpgaa.Os
open Go.Lx

theorem cnd_t {α : Type} {b : Bool} {x y r : α} (h : b = true) (k : x = r) : (bif b then x else y) = r := by subst h; exact k
theorem chk_pred {i : Nat} (h : i ≤ 9223372036854775807) : chk .i64 (((i + 1 : Nat) : Int) - 1) = some (i : Int) := by rw [chk_i64 (by omega) (by omega)]; congr 1; omega
theorem chk_pred2 {i : Nat} (h : i ≤ 9223372036854775807) : chk .i64 (((i + 1 + 1 : Nat) : Int) - 2) = some (i : Int) := by rw [chk_i64 (by omega) (by omega)]; congr 1; omega
theorem idxS_d {s : Str} {p : Nat} (h : p < s.length) : idxS s (p : Int) = some ((s.getD p 0).toNat : Int) := by
  rw [idxS_nat h, List.getD_eq_getElem?_getD, List.getElem?_eq_getElem h]; rfl
theorem u8_ne {a b : UInt8} : (((a.toNat : Int)) != (b.toNat : Int)) = !decide (a = b) := by
  by_cases h : a = b
  · subst h; simp
  · have : a.toNat ≠ b.toNat := fun e => h (UInt8.toNat_inj.1 e)
    rw [bne_t (by omega), decide_eq_false h]; rfl
theorem u8_eq {a b : UInt8} : (((a.toNat : Int)) == (b.toNat : Int)) = decide (a = b) := by
  by_cases h : a = b
  · subst h; simp
  · have : a.toNat ≠ b.toNat := fun e => h (UInt8.toNat_inj.1 e)
    rw [beq_f (by omega), decide_eq_false h]
/-- The first k entries of row i. -/
def Row (a b : Str) (i k : Nat) (l : List Int) : Prop := l.length = b.length + 1 ∧ ∀ q, q < k → l.getD q 0 = (osa a b i q : Int)
theorem Row.idx {a b : Str} {i k : Nat} {l : List Int} (h : Row a b i k l) {q : Nat} (hq : q < k) (hb : q ≤ b.length) : idxL l (q : Int) = some (osa a b i q : Int) := by
  rw [idxL_int (d := 0) (by omega) (by rw [h.1]; omega), Int.toNat_natCast, h.2 q hq]
theorem Row.put {a b : Str} {i k : Nat} {l : List Int} (h : Row a b i k l) (hk : k ≤ b.length) : setL l (k : Int) (osa a b i k : Int) = some (l.set k (osa a b i k : Int)) ∧ Row a b i (k + 1) (l.set k (osa a b i k : Int)) := by
  refine ⟨setL_nat (by rw [h.1]; omega), by rw [List.length_set]; exact h.1, fun q hq => ?_⟩
  rw [List.getD_eq_getElem?_getD, List.getElem?_set]
  split
  · rename_i e
    subst e
    rw [if_pos (by rw [h.1]; omega)]; rfl
  · have := h.2 q (by omega)
    rw [List.getD_eq_getElem?_getD] at this
    exact this
theorem min2_nat {a b : Nat} : min2 (a : Int) (b : Int) = ((min a b : Nat) : Int) := by unfold min2; split <;> omega
theorem min3_nat {a b c : Nat} : min3 (a : Int) (b : Int) (c : Int) = ((min (min a b) c : Nat) : Int) := by unfold min3; rw [min2_nat, min2_nat]
theorem dist_ok {a b : Str} (ha : a.length ≤ 1000) (hb : b.length ≤ 1000) : M.lexrepair_Distance a b = some (osa a b a.length b.length : Int) := by
  have hbd : ∀ i j, i ≤ 1001 → j ≤ 1001 → osa a b i j ≤ 1001 := fun i j hi hj => by have := (osa_bounds a b i j).2.2; omega
  refine Is.eq ?_
  unfold M.lexrepair_Distance
  refine Is.bnq (x := List.replicate (b.length + 1) (0 : Int)) (bind_of (chk_succ (by omega)) (bind_of (mkM_nat (by omega)) rfl)) ?_
  refine Is.bnd (P := Row a b 0 (b.length + 1)) ?_ fun l7 h7 => ?_
  · refine Is.upto (fun i (st : List Int × Int) => st.2 = (i : Int) ∧ Row a b 0 i st.1) (b.length + 1) (by omega) ⟨rfl, by simp, fun q hq => by omega⟩ ?_ ?_
    · rintro i ⟨l, _⟩ hi ⟨rfl, h⟩
      have hp := h.put (by omega)
      rw [osa_0] at hp
      exact Is.dt (by simp only [List.length_replicate]; omega) (Is.bnq hp.1 (Is.bnq (chk_succ (by omega)) (Is.next ⟨rfl, hp.2⟩)))
    · rintro ⟨l, _⟩ ⟨rfl, h⟩
      exact Is.df (by simp only [List.length_replicate]; omega) (Is.stop h)
  refine Is.bnd (P := Row a b a.length (b.length + 1)) ?_ fun l h => Is.bnq (h.idx (by omega) (by omega)) (Is.pure rfl)
  refine Is.upto (fun i (st : List Int × List Int × List Int × Int) => st.2.2.2 = ((i + 1 : Nat) : Int) ∧ st.1.length = b.length + 1 ∧ (∀ i', i = i' + 1 → Row a b i' (b.length + 1) st.2.1) ∧ st.2.1.length = b.length + 1 ∧ Row a b i (b.length + 1) st.2.2.1) a.length (by omega)
    ⟨rfl, by simp, fun _ h => by omega, by simp, h7⟩ ?_ ?_
  · rintro i ⟨l32, l33, l34, _⟩ hi ⟨rfl, h32, h33, h33l, h34⟩
    simp only at h32 h33 h34 h33l
    refine Is.dt (by omega) ?_
    have h0 := Row.put (a := a) (b := b) (i := i + 1) (k := 0) (l := l32) ⟨h32, fun q hq => by omega⟩ (by omega)
    rw [osa_i0] at h0
    refine Is.bnd (P := Row a b (i + 1) (b.length + 1)) (Is.bnq h0.1 ?_) fun y hy => Is.bnq (chk_succ (by omega)) (Is.next ⟨rfl, h33l, fun i' e => (show i = i' by omega) ▸ h34, h34.1, hy⟩)
    refine Is.upto (fun j (st : List Int × Int) => st.2 = ((j + 1 : Nat) : Int) ∧ Row a b (i + 1) (j + 1) st.1) b.length (by omega) ⟨rfl, h0.2⟩ ?_ ?_
    · rintro j ⟨y, _⟩ hj ⟨rfl, hy⟩
      refine Is.dt (by omega) ?_
      have b1 := hbd i j (by omega) (by omega)
      have b2 := hbd i (j + 1) (by omega) (by omega)
      have b3 := hbd (i + 1) j (by omega) (by omega)
      have hcs := cst_le (a := a) (b := b) (i := i) (j := j)
      refine Is.bnd (P := Row a b (i + 1) (j + 2)) ?_ fun y' hy' => Is.bnq (chk_succ (by omega)) (Is.next ⟨rfl, hy'⟩)
      refine Is.bnq (chk_pred (by omega)) (Is.bnq (h34.idx (by omega) (by omega)) ?_)
      refine Is.bnq (x := ((osa a b i j + cst a b i j : Nat) : Int)) ?_ ?_
      · refine bind_of (chk_pred (by omega)) (bind_of (idxS_d hi) (bind_of (idxS_d hj) ?_))
        rw [u8_ne]
        unfold cst
        by_cases hc : a.getD i 0 = b.getD j 0
        · rw [if_pos hc, decide_eq_true hc]; rfl
        · rw [if_neg hc, decide_eq_false hc]
          exact bind_of (chk_succ (by omega)) rfl
      refine Is.bnq (h34.idx (by omega) (by omega)) (Is.bnq (chk_succ (by omega)) (Is.bnq (hy.idx (by omega) (by omega)) (Is.bnq (chk_succ (by omega)) ?_)))
      have e3 : min3 (((osa a b i j + cst a b i j : Nat) : Int)) ((osa a b i (j + 1) + 1 : Nat) : Int) ((osa a b (i + 1) j + 1 : Nat) : Int) = (osa3 a b i j : Int) := by
        rw [min3_nat]; unfold osa3; omega
      rw [e3]
      have b4 : osa3 a b i j ≤ 1002 := by unfold osa3; omega
      have hyl : j + 1 < y.length := by rw [hy.1]; omega
      refine Is.bnq (setL_nat hyl) ?_
      have hyy : ∀ z : Nat, osa a b (i + 1) (j + 1) = z → Row a b (i + 1) (j + 2) (y.set (j + 1) (z : Int)) := by
        intro z hz
        have := (hy.put (k := j + 1) (by omega)).2
        rw [hz] at this
        exact this
      have hfst : ∀ z : Int, idxL (y.set (j + 1) z) ((j + 1 : Nat) : Int) = some z := by
        intro z
        rw [idxL_nat (by rw [List.length_set]; exact hyl), List.getElem_set_self]
      refine Is.bnd (P := fun c : Bool => (c = true → ∃ i' j', i = i' + 1 ∧ j = j' + 1 ∧ crossed a b i' j') ∧ (c = false → osa a b (i + 1) (j + 1) = osa3 a b i j)) ?_ fun c hc => ?_
      · cases i with
        | zero => exact Is.df (by omega) (Is.pure ⟨fun h => (by cases h), fun _ => osa_1⟩)
        | succ i =>
          refine Is.dt (by omega) ?_
          cases j with
          | zero => exact Is.df (by omega) (Is.pure ⟨fun h => (by cases h), fun _ => osa_i1⟩)
          | succ j =>
            refine Is.dt (by omega) (Is.bnq (chk_pred (by omega)) (Is.bnq (idxS_d hi) (Is.bnq (chk_pred2 (by omega)) (Is.bnq (idxS_d (by omega)) ?_))))
            rw [u8_eq]
            refine Is.dcd (fun h1 => ?_) (fun h1 => Is.pure ⟨fun h => (by cases h), fun _ => osa_f fun h => h1 h.1⟩)
            refine Is.bnq (chk_pred2 (by omega)) (Is.bnq (idxS_d (by omega)) (Is.bnq (idxS_d hj) (Is.pure ?_)))
            rw [u8_eq]
            exact ⟨fun h2 => ⟨i, j, rfl, rfl, h1, of_decide_eq_true h2⟩, fun h2 => osa_f fun h => of_decide_eq_false h2 h.2⟩
      · refine Is.cnd (fun h => ?_) (fun h => Is.pure (hyy _ (hc.2 h)))
        obtain ⟨i', j', rfl, rfl, hx⟩ := hc.1 h
        have b5 := hbd i' j' (by omega) (by omega)
        refine Is.bnq (hfst _) (Is.bnq (chk_pred2 (by omega)) (Is.bnq ((h33 i' rfl).idx (by omega) (by omega)) (Is.bnq (chk_succ (by omega)) ?_)))
        rw [min2_nat]
        refine Is.bnq (setL_nat (by rw [List.length_set]; exact hyl)) (Is.pure ?_)
        rw [List.set_set]
        exact hyy _ (osa_t hx)
    · rintro ⟨y, _⟩ ⟨rfl, hy⟩
      exact Is.df (by omega) (Is.stop hy)
  · rintro ⟨l32, l33, l34, _⟩ ⟨rfl, h32, h33, h33l, h34⟩
    exact Is.df (by omega) (Is.stop h34)
theorem law_bounds (x0 : Str) (_ : (fun s : Str => s.length ≤ maxLen) x0) (x1 : Str) (_ : (fun s : Str => s.length ≤ maxLen) x1) : M.law14_LexrepairDistanceBounds x0 x1 = some true := by
  refine Is.eq ?_
  unfold M.law14_LexrepairDistanceBounds
  refine Is.bnd (P := fun b => b = false → x0.length ≤ 30 ∧ x1.length ≤ 30) ?_ fun b hb => Is.cnd (fun _ => Is.bnq awake_true (Is.pure rfl)) (fun h => ?_)
  · exact Is.dcd (fun _ => Is.pure (by simp)) fun h1 => Is.pure fun h2 => by have := of_decide_eq_false h2; omega
  obtain ⟨h0, h1⟩ := hb h
  have hB := osa_bounds x0 x1 x0.length x1.length
  have hs := osa_symm x1 x0 x1.length x0.length
  have hz := osa_eq0 (a := x0) (b := x1)
  have hd := dist_ok (a := x0) (b := x1) (by omega) (by omega)
  generalize osa x0 x1 x0.length x1.length = d at hB hs hz hd
  refine Is.bnq (x := ((d : Nat) : Int)) ?_ (Is.bnq (x := true) ?_ (Is.pure rfl))
  · exact hd
  refine bind_of awake_true (cnd_t rfl (bind_of (dist_ok (by omega) (by omega)) ?_))
  rw [hs]
  refine cnd_t (beq_t rfl) (cnd_t ?_ ?_)
  · by_cases he : x0 = x1
    · rw [beq_t (show (d : Int) = 0 by have := hz.2 he; omega), he]; simp
    · rw [beq_f (show (d : Int) ≠ 0 from fun h => he (hz.1 (by omega))), show (x0 == x1) = false by simpa using he]; rfl
  · refine bind_of (chk_i64 (by omega) (by omega)) (cnd_t (dec_t (by omega)) (bind_of (chk_i64 (by omega) (by omega)) (cnd_t (dec_t (by omega)) ?_)))
    refine congrArg some (dec_t ?_)
    unfold max2
    split <;> omega
theorem sub_ok {l : Str} {i j : Nat} (h : i ≤ j) (hj : j ≤ l.length) : subL l (i : Int) (j : Int) = some ((l.take j).drop i) := by
  unfold subL
  rw [if_pos ⟨by omega, by omega, by omega⟩]
  rfl
theorem cat_ok {a b : Str} (h : a.length + b.length ≤ 1000000000) : catS a b = some (a ++ b) := by unfold catS; rw [if_pos (by omega)]
theorem cut3 {s : Str} {k : Nat} (h : k + 1 < s.length) : ∃ c d, s = s.take k ++ [c, d] ++ s.drop (k + 2) ∧ s.getD k 0 = c ∧ (s.take (k + 1)).drop k = [c] ∧ (s.take (k + 2)).drop (k + 1) = [d] := by
  refine ⟨s[k], s[k + 1], ?_, ?_, ?_, ?_⟩
  · rw [List.append_assoc]
    have h1 : s.drop k = s[k] :: s.drop (k + 1) := (List.getElem_cons_drop (by omega)).symm
    have h2 : s.drop (k + 1) = s[k + 1] :: s.drop (k + 2) := (List.getElem_cons_drop h).symm
    rw [h2] at h1
    show s = s.take k ++ (s[k] :: s[k + 1] :: s.drop (k + 2))
    rw [← h1, List.take_append_drop]
  · rw [List.getD_eq_getElem?_getD, List.getElem?_eq_getElem (by omega)]; rfl
  · rw [List.take_add_one, List.getElem?_eq_getElem (by omega), List.drop_append_of_le_length (by simp; omega), List.drop_of_length_le (by simp; omega)]; rfl
  · rw [List.take_add_one, List.getElem?_eq_getElem (by omega), List.drop_append_of_le_length (by simp; omega), List.drop_of_length_le (by simp; omega)]; rfl
theorem law_single (x0 : Str) (_ : (fun s : Str => s.length ≤ maxLen) x0) (x1 : Int) (ok1 : (IOk .u8) x1) (x2 : Int) (ok2 : (IOk .u8) x2) : M.law14_LexrepairSingleEdit x0 x1 x2 = some true := by
  obtain ⟨h10, h11⟩ := ok1
  have h10 : 0 ≤ x1 := h10
  have h11 : x1 ≤ 255 := h11
  obtain ⟨h20, h21⟩ := ok2
  have h20 : 0 ≤ x2 := h20
  have h21 : x2 ≤ 255 := h21
  obtain ⟨n, rfl⟩ := Int.eq_ofNat_of_zero_le h10
  obtain ⟨m, rfl⟩ := Int.eq_ofNat_of_zero_le h20
  refine Is.eq ?_
  unfold M.law14_LexrepairSingleEdit
  refine Is.bnd (P := fun b => b = false → 2 ≤ x0.length ∧ x0.length ≤ 30) ?_ fun b hb => Is.cnd (fun _ => Is.bnq awake_true (Is.pure rfl)) (fun h => ?_)
  · exact Is.dcd (fun _ => Is.pure (by simp)) fun h1 => Is.pure fun h2 => by have := of_decide_eq_false h2; omega
  obtain ⟨h0, h1⟩ := hb h
  have e1 : chk .i64 ((x0.length : Int) - 1) = some ((x0.length - 1 : Nat) : Int) := by rw [chk_i64 (by omega) (by omega)]; congr 1; omega
  have hk : n % (x0.length - 1) < x0.length - 1 := Nat.mod_lt _ (by omega)
  refine Is.bnq e1 (Is.bnq (x := ((n % (x0.length - 1) : Nat) : Int)) ?_ ?_)
  · rw [wrap_i64 (by omega) (by omega)]; exact rem_nat (by omega)
  generalize n % (x0.length - 1) = k at hk
  obtain ⟨c, d, hx, hc, hcc, hdd⟩ := cut3 (s := x0) (k := k) (by omega)
  have ht0 : subL x0 0 (k : Int) = some (x0.take k) := sub_ok (i := 0) (by omega) (by omega)
  have hone : toStr [(m : Int)] = [UInt8.ofNat m] := by simp [toStr]
  generalize hcm : UInt8.ofNat m = cm at hone
  have hmn : cm.toNat = m := by rw [← hcm, UInt8.toNat_ofNat']; omega
  have d0 : x0.drop k = c :: d :: x0.drop (k + 2) := by
    have h2 : x0.take k ++ x0.drop k = x0.take k ++ (c :: d :: x0.drop (k + 2)) := by
      rw [List.take_append_drop]
      refine hx.trans ?_
      simp
    exact List.append_cancel_left h2
  have d1 : x0.drop (k + 1) = d :: x0.drop (k + 2) := by rw [← List.drop_drop, d0]; rfl
  have hl : (x0.take k).length = k := by simp; omega
  have hl2 : (x0.drop (k + 2)).length = x0.length - (k + 2) := by simp
  have f1 : subL x0 (k : Int) (x0.length : Int) = some (c :: d :: x0.drop (k + 2)) := by rw [sub_ok (by omega) (Nat.le_refl _), List.take_length, d0]
  have f2 : subL x0 ((k + 1 : Nat) : Int) (x0.length : Int) = some (d :: x0.drop (k + 2)) := by rw [sub_ok (by omega) (Nat.le_refl _), List.take_length, d1]
  have f3 : subL x0 ((k + 2 : Nat) : Int) (x0.length : Int) = some (x0.drop (k + 2)) := by rw [sub_ok (by omega) (Nat.le_refl _), List.take_length]
  have f4 : subL x0 ((k + 1 : Nat) : Int) ((k + 2 : Nat) : Int) = some [d] := by rw [sub_ok (by omega) (by omega), hdd]
  have f5 : subL x0 (k : Int) ((k + 1 : Nat) : Int) = some [c] := by rw [sub_ok (by omega) (by omega), hcc]
  have hch2 : chk .i64 ((k : Int) + 2) = some ((k + 2 : Nat) : Int) := by rw [chk_i64 (by omega) (by omega)]; rfl
  have hci : idxS x0 (k : Int) = some (c.toNat : Int) := by rw [idxS_d (by omega), hc]
  rw [hone]
  clear hone hc hcc hdd d0 d1 hcm
  generalize x0.take k = p at *
  generalize x0.drop (k + 2) = q at *
  subst hx
  have hlen : (p ++ [c, d] ++ q).length = p.length + 2 + q.length := by simp; omega
  refine Is.bnq ht0 (Is.bnq (cat_ok (by simp; omega)) (Is.bnq f1 (Is.bnq (cat_ok (by simp; omega)) (Is.bnq (chk_succ (by omega)) (Is.bnq f2 (Is.bnq (cat_ok (by simp; omega)) (Is.bnq hch2 (Is.bnq f4 (Is.bnq (cat_ok (by simp; omega)) (Is.bnq f5 (Is.bnq (cat_ok (by simp; omega)) (Is.bnq f3 (Is.bnq (cat_ok (by simp; omega)) (Is.bnq (cat_ok (by simp; omega)) ?_))))))))))))))
  refine Is.bnq (x := true) ?_ (Is.pure rfl)
  have g1 : M.lexrepair_Distance (p ++ [c, d] ++ q) (p ++ [cm] ++ (c :: d :: q)) = some 1 := by
    rw [dist_ok (by simp; omega) (by simp; omega)]
    have := osa_insert (x := p) (y := [c, d] ++ q) (c := cm)
    simp only [← List.append_assoc] at this
    have e : p ++ [cm] ++ (c :: d :: q) = p ++ [cm] ++ [c, d] ++ q := by simp
    rw [e, this]; rfl
  have g2 : M.lexrepair_Distance (p ++ [c, d] ++ q) (p ++ (d :: q)) = some 1 := by
    rw [dist_ok (by simp; omega) (by simp; omega)]
    have := osa_delete (x := p) (y := d :: q) (c := c)
    have e : p ++ [c] ++ (d :: q) = p ++ [c, d] ++ q := by simp
    rw [e] at this
    rw [this]; rfl
  have g3 : ∃ z : Nat, z ≤ 1 ∧ M.lexrepair_Distance (p ++ [c, d] ++ q) (p ++ [d] ++ [c] ++ q) = some (z : Int) := by
    have := osa_swapped (x := p) (y := q) (c := c) (d := d)
    have e : p ++ [d] ++ [c] ++ q = p ++ [d, c] ++ q := by simp
    rw [e]
    exact ⟨_, this, dist_ok (by simp; omega) (by simp; omega)⟩
  have g4 : ∃ z : Nat, z ≤ 1 ∧ (z = 0 ↔ cm = c) ∧ M.lexrepair_Distance (p ++ [c, d] ++ q) (p ++ [cm] ++ (d :: q)) = some (z : Int) := by
    have := osa_replaced (x := p) (y := d :: q) (c := c) (d := cm)
    have e : p ++ [c] ++ (d :: q) = p ++ [c, d] ++ q := by simp
    rw [e] at this
    refine ⟨_, this, ?_, dist_ok (by simp; omega) (by simp; omega)⟩
    rw [osa_eq0, ← e]
    constructor
    · intro h
      have h := congrArg (fun l => l.getD p.length 0) h
      simpa using h.symm
    · rintro rfl; rfl
  obtain ⟨z3, hz3, e3⟩ := g3
  obtain ⟨z4, hz4, hzc, e4⟩ := g4
  refine bind_of awake_true (cnd_t rfl (bind_of g1 (cnd_t rfl (bind_of g2 (cnd_t rfl (bind_of e3 (cnd_t (dec_t (by omega)) (bind_of e4 (cnd_t (dec_t (by omega)) (bind_of hci (bind_of e4 (congrArg some ?_))))))))))))
  rw [← hmn, u8_eq]
  by_cases h : cm = c
  · rw [beq_t (show (z4 : Int) = 0 by have := hzc.2 h; omega), decide_eq_true h]; rfl
  · rw [beq_f (show (z4 : Int) ≠ 0 from fun e => h (hzc.1 (by omega))), decide_eq_false h]; rfl
end Go.Proofs.Ytjdmfabmacdpgaa.Os
