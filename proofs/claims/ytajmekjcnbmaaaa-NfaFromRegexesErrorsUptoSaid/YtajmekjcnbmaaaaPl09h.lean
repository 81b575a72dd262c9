/- Plain facts on layer 9: the two builders answer what the plain functions say. -/
import Derived.Test.YtajmekjcnbmaaaaPl09g
namespace Go.Proofs.Ytajmekjcnbmaaaa
open Go.Lx

def toI (l : List Nat) : List Int := l.map fun (n : Nat) => (n : Int)
theorem toI_len (l : List Nat) : (toI l).length = l.length := by simp [toI]
theorem toI_idx {l : List Nat} {i : Nat} (h : i < l.length) : idxL (toI l) (i : Int) = some (l[i] : Int) := by
  rw [idxL_nat (by rw [toI_len]; exact h)]; simp [toI]
theorem toI_app (a b : List Nat) : toI (a ++ b) = toI a ++ toI b := by simp [toI]
/-! ### nodes -/
theorem parts_take {l : List T_Regex} {i : Nat} (hi : i < l.length) : partsL (l.take (i + 1)) = partsL (l.take i) + parts l[i] := by
  rw [List.take_add_one, List.getElem?_eq_getElem hi, partsL_append]
  simp [partsL]
theorem parts_take_le (l : List T_Regex) (i : Nat) : partsL (l.take i) ≤ partsL l := by
  have := partsL_append (l.take i) (l.drop i)
  rw [List.take_append_drop] at this
  omega
theorem nodes_loop {l : List T_Regex} {f : T_Regex → Option Int} (hf : ∀ y ∈ l, f y = some (parts y : Int)) (hl : partsL l ≤ 1000000000) {body : Int × Int → Option (Step (Int × Int) Int)}
    (hb : ∀ n i, body (n, i) = bif decide (i < (l.length : Int)) then (idxL l i).bind fun e => (f e).bind fun r => (chk .i64 (n + r)).bind fun t => (chk .i64 (i + 1)).bind fun u => some (.next (t, u)) else some (.stop n)) :
    loopM body fuel ((1 : Int), (0 : Int)) = some ((partsL l + 1 : Nat) : Int) := by
  refine Is.eq ?_
  have hlen := len_parts l
  refine Is.upto (fun i (st : Int × Int) => st.2 = (i : Int) ∧ st.1 = ((partsL (l.take i) + 1 : Nat) : Int)) l.length (by omega) ⟨rfl, by simp [partsL]⟩ ?_ ?_
  · rintro i ⟨n, _⟩ hi ⟨rfl, h1⟩
    obtain rfl : n = _ := h1
    have h2 := parts_take hi
    have h3 := parts_take_le l (i + 1)
    rw [hb]
    refine Is.dt (by omega) (Is.bnq (idxL_nat hi) (Is.bnq (hf _ (List.getElem_mem hi)) (Is.bnq (x := ((partsL (l.take (i + 1)) + 1 : Nat) : Int)) ?_ (Is.bnq (chk_succ (by omega)) (Is.next ⟨rfl, rfl⟩)))))
    rw [chk_i64 (by omega) (by omega), h2]; congr 1; omega
  · rintro ⟨n, _⟩ ⟨rfl, h1⟩
    obtain rfl : n = _ := h1
    rw [hb, List.take_length]
    exact Is.df (by omega) (Is.stop rfl)
theorem nodes_ok : ∀ (fl : Nat) (x : T_Regex), parts x < fl → parts x ≤ 1000000000 → M.nfa_nodes fl x = some (parts x : Int) := by
  intro fl
  induction fl with
  | zero => intro x h; omega
  | succ fl ih =>
    intro x h1 h2
    obtain ⟨k, s, l⟩ := x
    have h3 : parts ⟨k, s, l⟩ = partsL l + 1 := by simp [parts]
    rw [h3] at h1 h2
    unfold M.nfa_nodes
    refine bind_of (nodes_loop (l := l) (f := fun y => M.nfa_nodes fl y) (fun y hy => ih y (by have := parts_mem hy; omega) (by have := parts_mem hy; omega)) (by omega) (fun _ _ => rfl)) ?_
    rw [h3]
theorem refNodes_ok : ∀ (fl : Nat) (x : T_Regex), parts x < fl → parts x ≤ 1000000000 → M.ref09_Nodes fl x = some (parts x : Int) := by
  intro fl
  induction fl with
  | zero => intro x h; omega
  | succ fl ih =>
    intro x h1 h2
    obtain ⟨k, s, l⟩ := x
    have h3 : parts ⟨k, s, l⟩ = partsL l + 1 := by simp [parts]
    rw [h3] at h1 h2
    unfold M.ref09_Nodes
    refine bind_of (nodes_loop (l := l) (f := fun y => M.ref09_Nodes fl y) (fun y hy => ih y (by have := parts_mem hy; omega) (by have := parts_mem hy; omega)) (by omega) (fun _ _ => rfl)) ?_
    rw [h3]
/-! ### sizes -/
mutual
theorem bd_len : ∀ (x : T_Regex) (b : Bs), (bd x b).1.fi.length ≤ parts x ∧ (bd x b).1.la.length ≤ parts x ∧ (bd x b).2.S.length ≤ b.S.length + parts x
  | ⟨k, s, l⟩, b => by
    simp only [parts, bd]
    refine ?_
    cases k == 3
    · cases k == 4
      · cases k == 5
        · cases k == 6
          · simp
          · match l with
            | [] => simp [bdS]
            | y :: l =>
              have h := bd_len y b
              simp only [cond_false, cond_true, bdS, partsL]
              omega
        · have h := bdU_len l ⟨false, [], []⟩ b
          simp only [cond_false, cond_true, List.length_nil] at h ⊢
          omega
      · have h := bdC_len l ⟨true, [], []⟩ b
        simp only [cond_false, cond_true, List.length_nil] at h ⊢
        omega
    · simp
theorem bdC_len : ∀ (l : List T_Regex) (x : Pt) (b : Bs), (bdC l x b).1.fi.length ≤ x.fi.length + partsL l ∧ (bdC l x b).1.la.length ≤ x.la.length + partsL l ∧ (bdC l x b).2.S.length ≤ b.S.length + partsL l
  | [], x, b => by simp [bdC]
  | y :: l, x, b => by
    have h := bd_len y b
    have h2 := bdC_len l (catP x (bd y b).1) ⟨(bd y b).2.S, (bd y b).2.P ++ prodP x.la (bd y b).1.fi⟩
    have h3 : (catP x (bd y b).1).fi.length ≤ x.fi.length + (bd y b).1.fi.length := by unfold catP; cases x.nl <;> simp
    have h4 : (catP x (bd y b).1).la.length ≤ x.la.length + (bd y b).1.la.length := by unfold catP; cases (bd y b).1.nl <;> simp
    simp only [bdC, partsL]
    simp only at h2
    omega
theorem bdU_len : ∀ (l : List T_Regex) (x : Pt) (b : Bs), (bdU l x b).1.fi.length ≤ x.fi.length + partsL l ∧ (bdU l x b).1.la.length ≤ x.la.length + partsL l ∧ (bdU l x b).2.S.length ≤ b.S.length + partsL l
  | [], x, b => by simp [bdU]
  | y :: l, x, b => by
    have h := bd_len y b
    have h2 := bdU_len l (uniP x (bd y b).1) (bd y b).2
    have h3 : (uniP x (bd y b).1).fi.length = x.fi.length + (bd y b).1.fi.length := by simp [uniP]
    have h4 : (uniP x (bd y b).1).la.length = x.la.length + (bd y b).1.la.length := by simp [uniP]
    simp only [bdU, partsL]
    omega
end
theorem bdC_snoc (y : T_Regex) : ∀ (l : List T_Regex) (x : Pt) (b : Bs), bdC (l ++ [y]) x b = (catP (bdC l x b).1 (bd y (bdC l x b).2).1, ⟨(bd y (bdC l x b).2).2.S, (bd y (bdC l x b).2).2.P ++ prodP (bdC l x b).1.la (bd y (bdC l x b).2).1.fi⟩)
  | [], x, b => by simp [bdC]
  | z :: l, x, b => by simp only [List.cons_append, bdC]; exact bdC_snoc y l _ _
theorem bdU_snoc (y : T_Regex) : ∀ (l : List T_Regex) (x : Pt) (b : Bs), bdU (l ++ [y]) x b = (uniP (bdU l x b).1 (bd y (bdU l x b).2).1, (bd y (bdU l x b).2).2)
  | [], x, b => by simp [bdU]
  | z :: l, x, b => by simp only [List.cons_append, bdU]; exact bdU_snoc y l _ _
theorem take_snoc {α : Type} {l : List α} {i : Nat} (h : i < l.length) : l.take (i + 1) = l.take i ++ [l[i]] := by rw [List.take_add_one, List.getElem?_eq_getElem h]; rfl
/-! ### rows of maps -/
structure BehR (beh : List (List (Int × Bool))) (n : Nat) (R : Nat → Nat → Prop) : Prop where
  len : beh.length = n
  nd : ∀ (p : Nat) (m : List (Int × Bool)), beh[p]? = some m → (m.map (·.1)).Nodup
  mem : ∀ (p : Nat) (m : List (Int × Bool)), beh[p]? = some m → ∀ k : Int, k ∈ m.map (·.1) ↔ ∃ q : Nat, k = (q : Int) ∧ R p q
theorem BehR.congr {beh : List (List (Int × Bool))} {n : Nat} {R R' : Nat → Nat → Prop} (h : BehR beh n R) (e : ∀ p q, R p q ↔ R' p q) : BehR beh n R' := by
  have : R = R' := funext fun p => funext fun q => propext (e p q)
  rw [← this]; exact h
theorem mem_mset {m : List (Int × Bool)} {k a : Int} {v : Bool} : a ∈ (mset m k v).map (·.1) ↔ a ∈ m.map (·.1) ∨ a = k := by
  induction m with
  | nil => simp [mset]
  | cons p m ih =>
    unfold mset
    cases hp : p.1 == k
    · simp only [cond_false, List.map_cons, List.mem_cons, ih, or_assoc]
    · have e : p.1 = k := by simpa using hp
      simp only [cond_true, List.map_cons, List.mem_cons, e]
      constructor
      · rintro (h | h)
        · exact .inr h
        · exact .inl (.inr h)
      · rintro ((h | h) | h)
        · exact .inl h
        · exact .inr h
        · exact .inl h
theorem nodup_mset {m : List (Int × Bool)} {k : Int} {v : Bool} (h : (m.map (·.1)).Nodup) : ((mset m k v).map (·.1)).Nodup := by
  induction m with
  | nil => simp [mset]
  | cons p m ih =>
    rw [List.map_cons, List.nodup_cons] at h
    unfold mset
    cases hp : p.1 == k
    · have e : p.1 ≠ k := by simpa using hp
      rw [cond_false, List.map_cons, List.nodup_cons, mem_mset]
      exact ⟨fun hc => hc.elim h.1 e, ih h.2⟩
    · have e : p.1 = k := by simpa using hp
      rw [cond_true, List.map_cons, List.nodup_cons]
      exact ⟨by rw [← e]; exact h.1, h.2⟩
theorem BehR.put {beh : List (List (Int × Bool))} {n : Nat} {R : Nat → Nat → Prop} (h : BehR beh n R) {p q : Nat} {m : List (Int × Bool)} (hm : beh[p]? = some m) : BehR (beh.set p (mset m (q : Int) true)) n (fun a c => R a c ∨ (a = p ∧ c = q)) := by
  have hp := (List.getElem?_eq_some_iff.1 hm).1
  refine ⟨by rw [List.length_set]; exact h.len, fun a m' ha => ?_, fun a m' ha k => ?_⟩
  · rw [List.getElem?_set] at ha
    split at ha
    · cases ha
      exact nodup_mset (h.nd _ _ hm)
    · exact h.nd _ _ ha
  · rw [List.getElem?_set] at ha
    split at ha
    · rename_i e
      subst e
      cases ha
      rw [mem_mset, h.mem _ _ hm]
      constructor
      · rintro (⟨c, rfl, hc⟩ | rfl)
        · exact ⟨c, rfl, .inl hc⟩
        · exact ⟨q, rfl, .inr ⟨rfl, rfl⟩⟩
      · rintro ⟨c, rfl, hc | ⟨_, rfl⟩⟩
        · exact .inl ⟨c, rfl, hc⟩
        · exact .inr rfl
    · rename_i e
      rw [h.mem _ _ ha]
      constructor
      · rintro ⟨c, rfl, hc⟩; exact ⟨c, rfl, .inl hc⟩
      · rintro ⟨c, rfl, hc | ⟨rfl, _⟩⟩
        · exact ⟨c, rfl, hc⟩
        · exact absurd rfl e
theorem link_ok {S : List (Vec 4)} {beh : List (List (Int × Bool))} {n : Nat} {R : Nat → Nat → Prop} {fr to : List Nat} (h : BehR beh n R) (hf : ∀ p ∈ fr, p < n) (h1 : fr.length ≤ 1000000000) (h2 : to.length ≤ 1000000000) :
    Is (M.nfa_builder_link ⟨S, beh⟩ (toI fr) (toI to)) (fun r => r.sets = S ∧ BehR r.behind n (fun p q => R p q ∨ (p ∈ fr ∧ q ∈ to))) := by
  unfold M.nfa_builder_link
  refine Is.upto (fun i (st : List (List (Int × Bool)) × Int) => st.2 = (i : Int) ∧ BehR st.1 n (fun p q => R p q ∨ (p ∈ fr.take i ∧ q ∈ to))) fr.length (by omega) ⟨rfl, h.congr (by simp)⟩ ?_ ?_
  · rintro i ⟨bh, _⟩ hi ⟨rfl, hb⟩
    have hb : BehR bh n _ := hb
    have hpn := hf _ (List.getElem_mem hi)
    refine Is.dt (by rw [toI_len]; omega) (Is.bnd (P := fun bh' => BehR bh' n (fun p q => R p q ∨ (p ∈ fr.take (i + 1) ∧ q ∈ to))) (Is.bnq (toI_idx hi) ?_) (fun bh' hb' => Is.bnq (chk_succ (by omega)) (Is.next ⟨rfl, hb'⟩)))
    refine Is.upto (fun k (st : List (List (Int × Bool)) × Int) => st.2 = (k : Int) ∧ BehR st.1 n (fun p q => (R p q ∨ (p ∈ fr.take i ∧ q ∈ to)) ∨ (p = fr[i] ∧ q ∈ to.take k))) to.length (by omega) ⟨rfl, hb.congr (by simp)⟩ ?_ ?_
    · rintro k ⟨b2, _⟩ hk ⟨rfl, hb2⟩
      have hb2 : BehR b2 n _ := hb2
      have hl : fr[i] < b2.length := by rw [hb2.len]; exact hpn
      refine Is.dt (by rw [toI_len]; omega) (Is.bnq (toI_idx hk) (Is.bnq (idxL_nat hl) (Is.bnq (setL_nat hl) (Is.bnq (chk_succ (by omega)) (Is.next ⟨rfl, ?_⟩)))))
      refine (hb2.put (q := to[k]) (List.getElem?_eq_getElem hl)).congr fun p q => ?_
      rw [take_snoc hk, List.mem_append, List.mem_singleton]
      constructor
      · rintro ((h | ⟨h3, h4⟩) | ⟨h3, h4⟩)
        · exact .inl h
        · exact .inr ⟨h3, .inl h4⟩
        · exact .inr ⟨h3, .inr h4⟩
      · rintro (h | ⟨h3, h4 | h4⟩)
        · exact .inl (.inl h)
        · exact .inl (.inr ⟨h3, h4⟩)
        · exact .inr ⟨h3, h4⟩
    · rintro ⟨b2, _⟩ ⟨rfl, hb2⟩
      have hb2 : BehR b2 n _ := hb2
      refine Is.df (by rw [toI_len]; omega) (Is.stop (hb2.congr fun p q => ?_))
      rw [List.take_length, take_snoc hi, List.mem_append, List.mem_singleton]
      constructor
      · rintro ((h | ⟨h3, h4⟩) | ⟨h3, h4⟩)
        · exact .inl h
        · exact .inr ⟨.inl h3, h4⟩
        · exact .inr ⟨.inr h3, h4⟩
      · rintro (h | ⟨h3 | h3, h4⟩)
        · exact .inl (.inl h)
        · exact .inl (.inr ⟨h3, h4⟩)
        · exact .inr ⟨h3, h4⟩
  · rintro ⟨bh, _⟩ ⟨rfl, hb⟩
    rw [List.take_length] at hb
    exact Is.df (by rw [toI_len]; omega) (Is.stop ⟨rfl, hb⟩)
/-! ### concatenation of slices -/
theorem concat_ok2 {a b : List Int} (h : a.length + b.length ≤ 1000000000) : M.slices_Concat_int_int [a, b] = some (a ++ b) := by
  have hlen : ([a, b] : List (List Int)).length = 2 := rfl
  refine Is.eq ?_
  unfold M.slices_Concat_int_int
  have hs : ∀ i, i ≤ 2 → ((([a, b] : List (List Int)).take i).map List.length).sum ≤ 1000000000 := by
    intro i hi
    match i, hi with
    | 0, _ => simp
    | 1, _ => simp; omega
    | 2, _ => simp; omega
  have hstep : ∀ i (hi : i < ([a, b] : List (List Int)).length), ((([a, b] : List (List Int)).take (i + 1)).map List.length).sum = ((([a, b] : List (List Int)).take i).map List.length).sum + ([a, b][i]).length := by
    intro i hi
    rw [take_snoc hi, List.map_append, List.sum_append]
    simp
  refine Is.bnq (x := ((a.length + b.length : Nat) : Int)) (Is.eq ?_) ?_
  · refine Is.upto (fun i (st : Int × Int) => st.2 = (i : Int) ∧ st.1 = (((([a, b] : List (List Int)).take i).map List.length).sum : Nat)) 2 (by omega) ⟨rfl, by simp⟩ ?_ ?_
    · rintro i ⟨n, _⟩ hi ⟨rfl, h1⟩
      obtain rfl : n = _ := h1
      have h3 := hs (i + 1) (by omega)
      have h4 := hstep i (by rw [hlen]; exact hi)
      refine Is.dt (by rw [hlen]; omega) (Is.bnq (x := (((([a, b] : List (List Int)).take (i + 1)).map List.length).sum : Nat)) (Is.eq ?_) (Is.bnq (chk_succ (by omega)) (Is.next ⟨rfl, rfl⟩)))
      refine Is.bnq (idxL_nat (by rw [hlen]; exact hi)) (Is.bnq (x := (((([a, b] : List (List Int)).take (i + 1)).map List.length).sum : Nat)) ?_ (Is.df (by omega) (Is.pure rfl)))
      rw [chk_i64 (by omega) (by omega), h4]; congr 1
    · rintro ⟨n, _⟩ ⟨rfl, h1⟩
      obtain rfl : n = _ := h1
      exact Is.df (by rw [hlen]; omega) (Is.stop (by simp))
  · refine Is.bnq (x := []) (by unfold M.slices_Grow_int_int growM; rw [if_pos ⟨rfl, by omega, by omega⟩]) (Is.bnq (x := a ++ b) (Is.eq ?_) (Is.pure rfl))
    refine Is.upto (fun i (st : List Int × Int) => st.2 = (i : Int) ∧ st.1 = (([a, b] : List (List Int)).take i).flatten) 2 (by omega) ⟨rfl, by simp⟩ ?_ ?_
    · rintro i ⟨n, _⟩ hi ⟨rfl, h1⟩
      obtain rfl : n = _ := h1
      have h3 := hs (i + 1) (by omega)
      have h4 := hstep i (by rw [hlen]; exact hi)
      have h5 : ((([a, b] : List (List Int)).take i).flatten).length = ((([a, b] : List (List Int)).take i).map List.length).sum := List.length_flatten
      refine Is.dt (by rw [hlen]; omega) (Is.bnq (idxL_nat (by rw [hlen]; exact hi)) (Is.bnq (appM_ok (by omega)) (Is.bnq (chk_succ (by omega)) (Is.next ⟨rfl, ?_⟩))))
      rw [take_snoc (by rw [hlen]; exact hi), List.flatten_append]
      simp
    · rintro ⟨n, _⟩ ⟨rfl, h1⟩
      obtain rfl : n = _ := h1
      exact Is.df (by rw [hlen]; omega) (Is.stop (by simp))
/-! ### the program's builder -/
def ptI (x : Pt) : T_nfa_part := ⟨x.nl, toI x.fi, toI x.la⟩
def Ok9 (r : Pt × Bs) (v : T_nfa_part × T_nfa_builder) : Prop := v.1 = ptI r.1 ∧ v.2.sets = r.2.S ∧ BehR v.2.behind (r.2.S.length + 1) (inQ r.2.P)
theorem bd_bnd (x : T_Regex) (b : Bs) : (∀ p ∈ (bd x b).1.fi, p ≤ (bd x b).2.S.length) ∧ (∀ p ∈ (bd x b).1.la, p ≤ (bd x b).2.S.length) := by
  obtain ⟨T, Q, h⟩ := bd_made x b
  exact ⟨fun p hp => (h.rng.fi p hp).2, fun p hp => (h.rng.la p hp).2⟩
theorem bdC_bnd (l : List T_Regex) (b : Bs) : ∀ p ∈ (bdC l ⟨true, [], []⟩ b).1.la, p ≤ (bdC l ⟨true, [], []⟩ b).2.S.length := by
  obtain ⟨T, Q, _, _, h, _⟩ := bdC_made l ⟨true, [], []⟩ b [] (fun w => w = []) b.S.length rng_none (fun U _ => rep_none (by simp) (by simp))
  exact fun p hp => (h.la p hp).2
theorem bd_grow (x : T_Regex) (b : Bs) : b.S.length ≤ (bd x b).2.S.length := by
  obtain ⟨T, Q, h⟩ := bd_made x b
  exact h.rng.le
theorem behR_push {beh : List (List (Int × Bool))} {n : Nat} {R : Nat → Nat → Prop} (h : BehR beh n R) (hR : ∀ q, ¬ R n q) : BehR (beh ++ [[]]) (n + 1) R := by
  have hl := h.len
  refine ⟨by simp [hl], fun p m hp => ?_, fun p m hp k => ?_⟩
  · rw [List.getElem?_append] at hp
    split at hp
    · exact h.nd _ _ hp
    · rw [List.getElem?_singleton] at hp
      split at hp <;> cases hp
      simp
  · rw [List.getElem?_append] at hp
    split at hp
    · exact h.mem _ _ hp k
    · rw [List.getElem?_singleton] at hp
      split at hp <;> cases hp
      have : p = n := by omega
      subst this
      simp only [List.map_nil, List.not_mem_nil, false_iff]
      rintro ⟨q, _, h⟩
      exact hR q h
theorem V_kids {d : Nat} {k : Int} {s : Vec 4} {l : List T_Regex} (h : V (d + 1) ⟨k, s, l⟩ = true) : shape k s l.length = true ∧ ∀ y ∈ l, V d y = true := by
  simp only [V, Bool.and_eq_true, List.all_eq_true] at h
  exact h
theorem shape_six {s : Vec 4} {n : Nat} (h : shape 6 s n = true) : n = 1 := by
  simp only [shape] at h
  simp at h
  exact h.1
theorem shape_kind {k : Int} {s : Vec 4} {n : Nat} (h : shape k s n = true) : k = 1 ∨ k = 2 ∨ k = 3 ∨ k = 4 ∨ k = 5 ∨ k = 6 := by
  by_cases h1 : k = 1; · exact .inl h1
  by_cases h2 : k = 2; · exact .inr (.inl h2)
  by_cases h3 : k = 3; · exact .inr (.inr (.inl h3))
  by_cases h4 : k = 4; · exact .inr (.inr (.inr (.inl h4)))
  by_cases h5 : k = 5; · exact .inr (.inr (.inr (.inr (.inl h5))))
  by_cases h6 : k = 6; · exact .inr (.inr (.inr (.inr (.inr h6))))
  simp [shape, h1, h2, h3, h4, h5, h6] at h
/-- The places of the edges are places. -/
def Cl9 (b : Bs) : Prop := ∀ p q, (p, q) ∈ b.P → p ≤ b.S.length ∧ q ≤ b.S.length
theorem bd_cl (x : T_Regex) {b : Bs} (h : Cl9 b) : Cl9 (bd x b).2 := by
  obtain ⟨T, Q, hm⟩ := bd_made x b
  intro p q hp
  rw [hm.P, List.mem_append] at hp
  rcases hp with hp | hp
  · have := h p q hp; have := hm.rng.le; omega
  · have := hm.rng.e p q hp; omega
theorem bdC_cl (l : List T_Regex) {b : Bs} (h : Cl9 b) : Cl9 (bdC l ⟨true, [], []⟩ b).2 := by
  obtain ⟨T, Q, h1, h2, h3, _⟩ := bdC_made l ⟨true, [], []⟩ b [] (fun w => w = []) b.S.length rng_none (fun U _ => rep_none (by simp) (by simp))
  intro p q hp
  rw [h2, List.mem_append] at hp
  rcases hp with hp | hp
  · have := h p q hp; have := h3.le; omega
  · have := h3.e p q (by unfold inQ; simpa using hp); omega
theorem bdU_cl (l : List T_Regex) {b : Bs} (h : Cl9 b) : Cl9 (bdU l ⟨false, [], []⟩ b).2 := by
  obtain ⟨T, Q, h1, h2, h3, _⟩ := bdU_made l ⟨false, [], []⟩ b [] (fun _ => False) b.S.length rng_none (fun U _ => rep_none (by simp) (by simp))
  intro p q hp
  rw [h2, List.mem_append] at hp
  rcases hp with hp | hp
  · have := h p q hp; have := h3.le; omega
  · have := h3.e p q (by unfold inQ; simpa using hp); omega
theorem expr_ok : ∀ (d fl : Nat) (x : T_Regex) (b : Bs) (beh : List (List (Int × Bool))), V d x = true → 2 * d + 1 ≤ fl → BehR beh (b.S.length + 1) (inQ b.P) → Cl9 b → b.S.length + parts x ≤ 100000 → Is (M.nfa_builder_expr fl ⟨b.S, beh⟩ x) (Ok9 (bd x b)) := by
  intro d
  induction d with
  | zero => intro fl x b beh h; simp [V] at h
  | succ d ih =>
    intro fl x b beh hV hfl hB hcl hsz
    obtain ⟨fl, rfl⟩ : ∃ f, fl = f + 1 + 1 := ⟨fl - 2, by omega⟩
    obtain ⟨k, s, l⟩ := x
    obtain ⟨hsh, hkid⟩ := V_kids hV
    have hparts : parts ⟨k, s, l⟩ = partsL l + 1 := by simp [parts]
    rw [hparts] at hsz
    have hll := len_parts l
    unfold M.nfa_builder_expr
    rcases shape_kind hsh with rfl | rfl | rfl | rfl | rfl | rfl
    · refine Is.cf rfl (Is.cf rfl (Is.cf rfl (Is.cf rfl (Is.cf rfl (Is.ct rfl (Is.bnq (x := (ptI ⟨false, [], []⟩, ⟨b.S, beh⟩)) rfl (Is.pure ?_)))))))
      exact ⟨rfl, rfl, hB⟩
    · refine Is.cf rfl (Is.cf rfl (Is.cf rfl (Is.cf rfl (Is.ct rfl (Is.bnq (x := (ptI ⟨true, [], []⟩, ⟨b.S, beh⟩)) rfl (Is.pure ?_))))))
      exact ⟨rfl, rfl, hB⟩
    · have e : bd ⟨3, s, l⟩ b = (⟨false, [b.S.length + 1], [b.S.length + 1]⟩, ⟨b.S ++ [s], b.P⟩) := by simp [bd]
      refine Is.cf rfl (Is.cf rfl (Is.cf rfl (Is.ct rfl ?_)))
      rw [e]
      have hbl := hB.len
      refine Is.bnq (x := (ptI ⟨false, [b.S.length + 1], [b.S.length + 1]⟩, ⟨b.S ++ [s], beh ++ [[]]⟩)) (Is.eq ?_) (Is.pure ⟨rfl, rfl, ?_⟩)
      · unfold M.nfa_builder_set
        refine Is.bnq (appM_ok (by simp only [List.length_singleton]; omega)) (Is.bnq (appM_ok (by simp only [List.length_singleton]; omega)) (Is.pure ?_))
        simp [ptI, toI]
      · have := behR_push hB (fun q h => by have := hcl _ _ h; omega)
        simpa using this
    · have e : bd ⟨4, s, l⟩ b = bdC l ⟨true, [], []⟩ b := by simp [bd]
      refine Is.cf rfl (Is.cf rfl (Is.ct rfl ?_))
      rw [e]
      refine Is.bnd (P := Ok9 (bdC l ⟨true, [], []⟩ b)) ?_ (fun v hv => Is.pure hv)
      unfold M.nfa_builder_concat
      refine Is.bnd (P := fun (v : Bool × List Int × List Int × List (Vec 4) × List (List (Int × Bool))) => Ok9 (bdC l ⟨true, [], []⟩ b) (⟨v.1, v.2.1, v.2.2.1⟩, ⟨v.2.2.2.1, v.2.2.2.2⟩)) ?_ (fun v hv => Is.pure hv)
      refine Is.upto (fun i (st : List (Vec 4) × List (List (Int × Bool)) × Bool × List Int × List Int × Int) => st.2.2.2.2.2 = (i : Int) ∧ Ok9 (bdC (l.take i) ⟨true, [], []⟩ b) (⟨st.2.2.1, st.2.2.2.1, st.2.2.2.2.1⟩, ⟨st.1, st.2.1⟩)) l.length (by omega) ⟨rfl, by simp [bdC, Ok9, ptI, toI, hB]⟩ ?_ ?_
      · rintro i ⟨S, bh, n, fi, la, _⟩ hi ⟨rfl, h1, h2, h3⟩
        simp only at h1 h2 h3
        obtain ⟨rfl, rfl, rfl⟩ : n = (bdC (l.take i) ⟨true, [], []⟩ b).1.nl ∧ fi = toI (bdC (l.take i) ⟨true, [], []⟩ b).1.fi ∧ la = toI (bdC (l.take i) ⟨true, [], []⟩ b).1.la := by
          unfold ptI at h1; cases h1; exact ⟨rfl, rfl, rfl⟩
        subst h2
        have hq := bdC_len (l.take i) ⟨true, [], []⟩ b
        have hbn := bdC_bnd (l.take i) b
        have hcl2 := bdC_cl (l.take i) hcl
        have hpt := parts_take hi
        have hpl := parts_take_le l (i + 1)
        have hsn := bdC_snoc l[i] (l.take i) ⟨true, [], []⟩ b
        rw [← take_snoc hi] at hsn
        generalize bdC (l.take i) ⟨true, [], []⟩ b = r at h3 hq hbn hcl2 hsn
        simp only [List.length_nil] at hq
        have hy := bd_len l[i] r.2
        have hyb := bd_bnd l[i] r.2
        have hyg := bd_grow l[i] r.2
        refine Is.dt (show ((i : Nat) : Int) < (l.length : Int) by omega) (Is.bnq (idxL_nat hi) (Is.bnd (ih fl l[i] r.2 bh (hkid _ (List.getElem_mem hi)) (by omega) h3 hcl2 (by omega)) ?_))
        rintro ⟨vp, vb⟩ ⟨e1, e2, e3⟩
        simp only at e1 e2 e3
        subst e1
        obtain ⟨vs, vbh⟩ := vb
        simp only at e2 e3
        subst e2
        refine Is.bnd (link_ok e3 (fr := r.1.la) (to := (bd l[i] r.2).1.fi) (fun p hp => by have := hbn p hp; omega) (by omega) (by omega)) ?_
        rintro ⟨ws, wbh⟩ ⟨f1, f2⟩
        simp only at f1 f2
        subst f1
        refine Is.bnq (x := toI (catP r.1 (bd l[i] r.2).1).fi) (Is.eq (Is.cnd (fun hn => ?_) (fun hn => ?_))) ?_
        · refine Is.bnq (concat_ok2 (by simp only [ptI, toI_len]; omega)) (Is.pure ?_)
          unfold catP ptI
          rw [hn, cond_true, toI_app]
        · refine Is.pure ?_
          unfold catP
          rw [hn, cond_false]
        refine Is.bnq (x := toI (catP r.1 (bd l[i] r.2).1).la) (Is.eq (Is.cnd (fun hn => ?_) (fun hn => ?_))) ?_
        · have hn : (bd l[i] r.2).1.nl = true := hn
          refine Is.bnq (concat_ok2 (by simp only [ptI, toI_len]; omega)) (Is.pure ?_)
          unfold catP ptI
          rw [hn, cond_true, toI_app]
        · have hn : (bd l[i] r.2).1.nl = false := hn
          refine Is.pure ?_
          unfold catP ptI
          rw [hn, cond_false]
        have hfin : BehR wbh ((bdC (l.take (i + 1)) ⟨true, [], []⟩ b).2.S.length + 1) (inQ (bdC (l.take (i + 1)) ⟨true, [], []⟩ b).2.P) := by
          rw [hsn]
          refine f2.congr fun p q => ?_
          unfold inQ
          rw [List.mem_append, mem_prodP]
        refine Is.cnd (fun hn => ?_) (fun hn => ?_)
        · refine Is.bnq (chk_succ (by omega)) (Is.next ⟨rfl, ?_, ?_, hfin⟩)
          · rw [hsn]; unfold ptI catP; rw [hn]; rfl
          · rw [hsn]
        · refine Is.bnq (chk_succ (by omega)) (Is.next ⟨rfl, ?_, ?_, hfin⟩)
          · rw [hsn]; unfold ptI catP; rw [hn]; rfl
          · rw [hsn]
      · rintro ⟨S, bh, n, fi, la, _⟩ ⟨rfl, h1⟩
        rw [List.take_length] at h1
        exact Is.df (show ¬ ((l.length : Nat) : Int) < (l.length : Int) by omega) (Is.stop h1)
    · have e : bd ⟨5, s, l⟩ b = bdU l ⟨false, [], []⟩ b := by simp [bd]
      refine Is.cf rfl (Is.ct rfl ?_)
      rw [e]
      refine Is.bnd (P := Ok9 (bdU l ⟨false, [], []⟩ b)) ?_ (fun v hv => Is.pure hv)
      unfold M.nfa_builder_union
      refine Is.bnd (P := fun (v : Bool × List Int × List Int × List (Vec 4) × List (List (Int × Bool))) => Ok9 (bdU l ⟨false, [], []⟩ b) (⟨v.1, v.2.1, v.2.2.1⟩, ⟨v.2.2.2.1, v.2.2.2.2⟩)) ?_ (fun v hv => Is.pure hv)
      refine Is.upto (fun i (st : List (Vec 4) × List (List (Int × Bool)) × Bool × List Int × List Int × Int) => st.2.2.2.2.2 = (i : Int) ∧ Ok9 (bdU (l.take i) ⟨false, [], []⟩ b) (⟨st.2.2.1, st.2.2.2.1, st.2.2.2.2.1⟩, ⟨st.1, st.2.1⟩)) l.length (by omega) ⟨rfl, by simp [bdU, Ok9, ptI, toI, hB]⟩ ?_ ?_
      · rintro i ⟨S, bh, n, fi, la, _⟩ hi ⟨rfl, h1, h2, h3⟩
        simp only at h1 h2 h3
        obtain ⟨rfl, rfl, rfl⟩ : n = (bdU (l.take i) ⟨false, [], []⟩ b).1.nl ∧ fi = toI (bdU (l.take i) ⟨false, [], []⟩ b).1.fi ∧ la = toI (bdU (l.take i) ⟨false, [], []⟩ b).1.la := by
          unfold ptI at h1; cases h1; exact ⟨rfl, rfl, rfl⟩
        subst h2
        have hq := bdU_len (l.take i) ⟨false, [], []⟩ b
        have hcl2 := bdU_cl (l.take i) hcl
        have hpt := parts_take hi
        have hpl := parts_take_le l (i + 1)
        have hsn := bdU_snoc l[i] (l.take i) ⟨false, [], []⟩ b
        rw [← take_snoc hi] at hsn
        generalize bdU (l.take i) ⟨false, [], []⟩ b = r at h3 hq hcl2 hsn
        simp only [List.length_nil] at hq
        have hy := bd_len l[i] r.2
        refine Is.dt (show ((i : Nat) : Int) < (l.length : Int) by omega) (Is.bnq (idxL_nat hi) (Is.bnd (ih fl l[i] r.2 bh (hkid _ (List.getElem_mem hi)) (by omega) h3 hcl2 (by omega)) ?_))
        rintro ⟨vp, vb⟩ ⟨e1, e2, e3⟩
        simp only at e1 e2 e3
        subst e1
        have hc1 : M.slices_Concat_int_int [toI r.1.fi, (ptI (bd l[i] r.2).1).first] = some (toI (uniP r.1 (bd l[i] r.2).1).fi) := by
          rw [concat_ok2 (by simp only [ptI, toI_len]; omega)]
          unfold uniP ptI
          rw [toI_app]
        have hc2 : M.slices_Concat_int_int [toI r.1.la, (ptI (bd l[i] r.2).1).last] = some (toI (uniP r.1 (bd l[i] r.2).1).la) := by
          rw [concat_ok2 (by simp only [ptI, toI_len]; omega)]
          unfold uniP ptI
          rw [toI_app]
        refine Is.cnd (fun hn => ?_) (fun hn => ?_)
        · refine Is.bnq hc1 (Is.bnq hc2 (Is.bnq (chk_succ (by omega)) (Is.next ⟨rfl, ?_, ?_, ?_⟩)))
          · rw [hsn]; unfold ptI uniP; rw [hn]; rfl
          · rw [hsn]; exact e2
          · rw [hsn]; exact e3
        · refine Is.bnq hc1 (Is.bnq hc2 (Is.bnq (chk_succ (by omega)) (Is.next ⟨rfl, ?_, ?_, ?_⟩)))
          · rw [hsn]; unfold ptI uniP; rw [hn]; rfl
          · rw [hsn]; exact e2
          · rw [hsn]; exact e3
      · rintro ⟨S, bh, n, fi, la, _⟩ ⟨rfl, h1⟩
        rw [List.take_length] at h1
        exact Is.df (show ¬ ((l.length : Nat) : Int) < (l.length : Int) by omega) (Is.stop h1)
    · have h1 := shape_six hsh
      match l, h1 with
      | [y], _ =>
        have e : bd ⟨6, s, [y]⟩ b = (⟨true, (bd y b).1.fi, (bd y b).1.la⟩, ⟨(bd y b).2.S, (bd y b).2.P ++ prodP (bd y b).1.la (bd y b).1.fi⟩) := by simp [bd, bdS]
        refine Is.ct rfl ?_
        rw [e]
        refine Is.bnd (P := Ok9 (⟨true, (bd y b).1.fi, (bd y b).1.la⟩, ⟨(bd y b).2.S, (bd y b).2.P ++ prodP (bd y b).1.la (bd y b).1.fi⟩)) ?_ (fun v hv => Is.pure hv)
        unfold M.nfa_builder_star
        simp only [partsL] at hsz
        have hy := bd_len y b
        have hyb := bd_bnd y b
        refine Is.bnq (x := y) rfl (Is.bnd (ih fl y b beh (hkid y (by simp)) (by omega) hB hcl (by omega)) ?_)
        rintro ⟨vp, vb⟩ ⟨e1, e2, e3⟩
        simp only at e1 e2 e3
        subst e1
        obtain ⟨vs, vbh⟩ := vb
        simp only at e2 e3
        subst e2
        refine Is.bnd (link_ok e3 (fr := (bd y b).1.la) (to := (bd y b).1.fi) (fun p hp => by have := hyb.2 p hp; omega) (by omega) (by omega)) ?_
        rintro ⟨ws, wbh⟩ ⟨f1, f2⟩
        simp only at f1 f2
        subst f1
        refine Is.pure ⟨rfl, rfl, f2.congr fun p q => ?_⟩
        unfold inQ
        rw [List.mem_append, mem_prodP]
end Go.Proofs.Ytajmekjcnbmaaaa
