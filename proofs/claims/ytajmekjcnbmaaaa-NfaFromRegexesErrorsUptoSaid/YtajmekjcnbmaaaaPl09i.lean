/- Plain facts on layer 9: what FromRegexes answers; the law on its errors. -/
import Derived.Test.YtajmekjcnbmaaaaPl09h
import Derived.Test.YtajmekjcnbmaaaaPl09a
namespace Go.Proofs.Ytajmekjcnbmaaaa
open Go.Lx

/-! ### the fold over the expressions -/
def pad (a : List Int) (n : Nat) : List Int := a ++ List.replicate (n + 1 - a.length) (-1)
def setA (la : List Nat) (i : Int) (a : List Int) : List Int := la.foldl (fun a p => a.set p i) a
def fin0 (nl : Bool) (i : Int) (a : List Int) : List Int := bif nl && decide (a.getD 0 0 < 0) then a.set 0 i else a
def stF (i : Nat) (x : T_Regex) (s : Bs × List Int) : Bs × List Int :=
  (⟨(bd x s.1).2.S, (bd x s.1).2.P ++ prodP [0] (bd x s.1).1.fi⟩, fin0 (bd x s.1).1.nl i (setA (bd x s.1).1.la i (pad s.2 (bd x s.1).2.S.length)))
def goF : Nat → List T_Regex → Bs × List Int → Bs × List Int
  | _, [], s => s
  | i, x :: l, s => goF (i + 1) l (stF i x s)
theorem goF_snoc (y : T_Regex) : ∀ (l : List T_Regex) (i : Nat) (s : Bs × List Int), goF i (l ++ [y]) s = stF (i + l.length) y (goF i l s)
  | [], i, s => by simp [goF]
  | x :: l, i, s => by
    simp only [List.cons_append, goF, List.length_cons]
    rw [goF_snoc y l (i + 1) (stF i x s)]
    congr 1; omega
def s09 : Bs × List Int := (⟨[], []⟩, [-1])
theorem setA_len (i : Int) : ∀ (la : List Nat) (a : List Int), (setA la i a).length = a.length
  | [], a => rfl
  | p :: la, a => by
    have := setA_len i la (a.set p i)
    rw [List.length_set] at this
    exact this
theorem fin0_len (nl : Bool) (i : Int) (a : List Int) : (fin0 nl i a).length = a.length := by
  unfold fin0
  cases nl && decide (a.getD 0 0 < 0) <;> simp
theorem pad_len {a : List Int} {n : Nat} (h : a.length ≤ n + 1) : (pad a n).length = n + 1 := by
  unfold pad
  rw [List.length_append, List.length_replicate]
  omega
/-- What holds of the fold. -/
structure Gd9 (s : Bs × List Int) : Prop where
  cl : Cl9 s.1
  pos : ∀ p q, (p, q) ∈ s.1.P → 1 ≤ q
  len : s.2.length = s.1.S.length + 1
theorem gd9_st {i : Nat} {x : T_Regex} {s : Bs × List Int} (h : Gd9 s) : Gd9 (stF i x s) := by
  obtain ⟨T, Q, hm⟩ := bd_made x s.1
  have hg := bd_grow x s.1
  have hbn := bd_bnd x s.1
  have hl := h.len
  refine ⟨fun p q hp => ?_, fun p q hp => ?_, ?_⟩
  · rcases List.mem_append.1 hp with hp | hp
    · exact bd_cl x h.cl p q hp
    · obtain ⟨h1, h2⟩ := mem_prodP.1 hp
      obtain rfl := List.mem_singleton.1 h1
      exact ⟨Nat.zero_le _, hbn.1 q h2⟩
  · rcases List.mem_append.1 hp with hp | hp
    · rw [hm.P] at hp
      rcases List.mem_append.1 hp with hp | hp
      · exact h.pos p q hp
      · have := hm.rng.e p q hp; omega
    · obtain ⟨_, h2⟩ := mem_prodP.1 hp
      have := hm.rng.fi q h2; omega
  · show (fin0 _ _ _).length = (bd x s.1).2.S.length + 1
    rw [fin0_len, setA_len, pad_len (by omega)]
theorem gd9_go : ∀ (l : List T_Regex) (i : Nat) (s : Bs × List Int), Gd9 s → Gd9 (goF i l s)
  | [], _, _, h => h
  | x :: l, i, s, h => gd9_go l (i + 1) (stF i x s) (gd9_st h)
theorem gd9_0 : Gd9 s09 := ⟨fun p q h => by simp [s09] at h, fun p q h => by simp [s09] at h, rfl⟩
theorem goF_len : ∀ (l : List T_Regex) (i : Nat) (s : Bs × List Int), (goF i l s).1.S.length ≤ s.1.S.length + partsL l
  | [], _, s => by simp [goF, partsL]
  | x :: l, i, s => by
    have h1 := goF_len l (i + 1) (stF i x s)
    have h2 : (stF i x s).1.S.length ≤ s.1.S.length + parts x := (bd_len x s.1).2.2
    simp only [goF, partsL]
    omega
/-! ### loops -/
theorem pad_loop {a : List Int} {n : Nat} (h : a.length ≤ n + 1) (hn : n ≤ 1000000) {body : List Int → Option (Step (List Int) (List Int))}
    (hb : ∀ s, body s = bif decide ((s.length : Int) ≤ (n : Int)) then (appM 8 s [(-1)]).bind fun y => some (.next y) else some (.stop s)) : loopM body fuel a = some (pad a n) := by
  refine Is.eq ?_
  refine Is.while (fun s => ∃ k, s = a ++ List.replicate k (-1) ∧ s.length ≤ n + 1) (fun s => n + 1 - s.length) ⟨0, by simp, h⟩ (by omega) ?_
  rintro s ⟨k, rfl, hl⟩
  rw [hb]
  refine Is.dcd (fun h1 => Is.bnq (appM_ok (by simp only [List.length_singleton]; omega)) (Is.next ⟨⟨k + 1, by rw [List.append_assoc, List.replicate_succ'], by rw [List.length_append, List.length_singleton]; omega⟩, ?_⟩)) (fun h1 => Is.stop ?_)
  · rw [List.length_append, List.length_singleton]; omega
  · unfold pad
    rw [List.length_append, List.length_replicate] at h1 hl
    congr 2; omega
theorem set_loop {a : List Int} {la : List Nat} {v : Int} (hla : ∀ p ∈ la, p < a.length) (hl : la.length ≤ 1000000) {body : List Int × Int → Option (Step (List Int × Int) (List Int))}
    (hb : ∀ s i, body (s, i) = bif decide (i < ((toI la).length : Int)) then (idxL (toI la) i).bind fun e => (setL s e v).bind fun y => (chk .i64 (i + 1)).bind fun t => some (.next (y, t)) else some (.stop s)) : loopM body fuel (a, (0 : Int)) = some (setA la v a) := by
  refine Is.eq ?_
  refine Is.upto (fun i (st : List Int × Int) => st.2 = (i : Int) ∧ st.1 = setA (la.take i) v a) la.length (by omega) ⟨rfl, rfl⟩ ?_ ?_
  · rintro i ⟨s, _⟩ hi ⟨rfl, h1⟩
    obtain rfl : s = _ := h1
    rw [hb]
    refine Is.dt (by rw [toI_len]; omega) (Is.bnq (toI_idx hi) (Is.bnq (setL_nat (by rw [setA_len]; exact hla _ (List.getElem_mem hi))) (Is.bnq (chk_succ (by omega)) (Is.next ⟨rfl, ?_⟩))))
    show List.set _ _ _ = _
    unfold setA
    rw [take_snoc hi, List.foldl_append]
    rfl
  · rintro ⟨s, _⟩ ⟨rfl, h1⟩
    obtain rfl : s = _ := h1
    rw [hb, List.take_length]
    exact Is.df (by rw [toI_len]; omega) (Is.stop rfl)
theorem getD_head {a : List Int} (h : 0 < a.length) : idxL a 0 = some (a.getD 0 0) := by
  have := idxL_nat (l := a) (i := 0) h
  rw [show ((0 : Nat) : Int) = 0 from rfl] at this
  rw [this]
  simp [List.getD_eq_getElem?_getD, h]
theorem fin_ok {α : Type} {n : Bool} {a : List Int} {v : Int} {f : List Int → α} (h : 0 < a.length) :
    ((bif n then (idxL a 0).bind fun e => some (decide (e < 0)) else some false).bind fun x => bif x then (setL a 0 v).bind fun y => some (f y) else some (f a)) = some (f (fin0 n v a)) := by
  have hs : setL a 0 v = some (a.set 0 v) := setL_nat (i := 0) h
  unfold fin0
  cases n
  · rfl
  · rw [cond_true, getD_head h, hs]
    simp only [Option.bind_some, Bool.true_and]
    cases decide (a.getD 0 0 < 0) <;> rfl
/-! ### the arcs -/
def mkA (S : List (Vec 4)) (p q : Nat) : T_NFAArc := ⟨p, q, false, S.getD (q - 1) (Vec.zero 4)⟩
def rowQ (P : List (Nat × Nat)) (N p : Nat) : List Nat := (List.range N).filter fun q => decide ((p, q) ∈ P)
def arcsR (S : List (Vec 4)) (P : List (Nat × Nat)) (N p : Nat) : List T_NFAArc := (rowQ P N p).map (mkA S p)
def arcsN (S : List (Vec 4)) (P : List (Nat × Nat)) (N k : Nat) : List T_NFAArc := (List.range k).flatMap (arcsR S P N)
def nfaOf (l : List T_Regex) : T_NFA := ⟨((goF 0 l s09).2.length : Int), 0, arcsN (goF 0 l s09).1.S (goF 0 l s09).1.P (goF 0 l s09).2.length (goF 0 l s09).2.length, (goF 0 l s09).2⟩
theorem rowQ_len (P : List (Nat × Nat)) (N p : Nat) : (rowQ P N p).length ≤ N := by
  have := List.length_filter_le (fun q => decide ((p, q) ∈ P)) (List.range N)
  rw [List.length_range] at this
  exact this
theorem mem_rowQ {P : List (Nat × Nat)} {N p q : Nat} : q ∈ rowQ P N p ↔ q < N ∧ (p, q) ∈ P := by
  unfold rowQ
  rw [List.mem_filter, List.mem_range]
  simp
theorem rowQ_sorted (P : List (Nat × Nat)) (N p : Nat) : (rowQ P N p).Pairwise (· < ·) := List.Pairwise.filter _ List.pairwise_lt_range
theorem arcsN_len (S : List (Vec 4)) (P : List (Nat × Nat)) (N : Nat) : ∀ k, (arcsN S P N k).length ≤ k * N
  | 0 => by simp [arcsN]
  | k + 1 => by
    have := arcsN_len S P N k
    have h2 := rowQ_len P N k
    unfold arcsN at this ⊢
    rw [List.range_succ, List.flatMap_append, List.length_append, Nat.succ_mul]
    simp only [List.flatMap_cons, List.flatMap_nil, List.append_nil, arcsR, List.length_map] at this ⊢
    omega
theorem arcsN_succ (S : List (Vec 4)) (P : List (Nat × Nat)) (N k : Nat) : arcsN S P N (k + 1) = arcsN S P N k ++ arcsR S P N k := by
  unfold arcsN
  rw [List.range_succ, List.flatMap_append]
  simp
theorem keys_row {beh : List (List (Int × Bool))} {N : Nat} {P : List (Nat × Nat)} (h : BehR beh N (inQ P)) (hq : ∀ p q, (p, q) ∈ P → q < N) (hN : N ≤ 1000000) {p : Nat} {m : List (Int × Bool)} (hm : beh[p]? = some m) : keysM m = some (toI (rowQ P N p)) := by
  have hmem := h.mem p m hm
  have hnd := h.nd p m hm
  have hnd2 : (toI (rowQ P N p)).Nodup := by
    unfold toI
    refine List.pairwise_map.2 ((rowQ_sorted P N p).imp ?_)
    intro a b hab e
    have : a = b := by omega
    omega
  have hperm : (m.map (·.1)).Perm (toI (rowQ P N p)) := by
    refine (List.perm_ext_iff_of_nodup hnd hnd2).2 fun k => ?_
    rw [hmem]
    unfold toI
    rw [List.mem_map]
    constructor
    · rintro ⟨q, rfl, hR⟩
      exact ⟨q, mem_rowQ.2 ⟨hq p q hR, hR⟩, rfl⟩
    · rintro ⟨q, hR, rfl⟩
      exact ⟨q, rfl, (mem_rowQ.1 hR).2⟩
  have hlen : m.length ≤ N := by
    have := hperm.length_eq
    rw [List.length_map, toI_len] at this
    have := rowQ_len P N p
    omega
  have hr : ∀ x ∈ m, -9223372036854775808 ≤ x.1 ∧ x.1 ≤ 9223372036854775807 := by
    intro x hx
    obtain ⟨q, e, hR⟩ := (hmem x.1).1 (List.mem_map.2 ⟨x, hx, rfl⟩)
    have := hq p q hR
    omega
  unfold keysM
  rw [if_pos ⟨by omega, hr⟩]
  congr 1
  refine List.Perm.eq_of_pairwise (le := fun a b : Int => a ≤ b) (fun a b _ _ h1 h2 => Int.le_antisymm h1 h2) (isort_sorted _) ?_ ((isort_perm _).trans hperm)
  unfold toI
  refine List.pairwise_map.2 ((rowQ_sorted P N p).imp ?_)
  intro a b hab
  omega
theorem vec_idx {S : List (Vec 4)} {q : Nat} (h1 : 1 ≤ q) (h2 : q ≤ S.length) : idxL S ((q : Int) - 1) = some (S.getD (q - 1) (Vec.zero 4)) := by
  have := idxL_nat (l := S) (i := q - 1) (by omega)
  rw [show ((q - 1 : Nat) : Int) = (q : Int) - 1 by omega] at this
  rw [this]
  simp [List.getD_eq_getElem?_getD, show q - 1 < S.length by omega]
/-! ### FromRegexes -/
def zN : T_NFA := ⟨0, 0, [], []⟩
/-- The answers that FromRegexes has. -/
def Ans {α : Type} (l : List T_Regex) (e : Int) (x : α) (z n : α) : Prop :=
  ((∃ y ∈ l, V 30 y = false) ∧ e = 1 ∧ x = z) ∨ ((∀ y ∈ l, V 30 y = true) ∧ 500 < partsL l ∧ e = 11 ∧ x = z) ∨ ((∀ y ∈ l, V 30 y = true) ∧ partsL l ≤ 500 ∧ e = 0 ∧ x = n)
theorem check_loop {ρ : Type} {l : List T_Regex} (hp : partsL l ≤ 1048576) {v n : T_Regex → Option _} (hv : ∀ y ∈ l, v y = some (V 30 y)) (hn : ∀ y ∈ l, n y = some (parts y : Int)) {z : ρ} {body : Int × Int → Option (Step (Int × Int) (Step Int ρ))}
    (hb : ∀ t i, body (t, i) = bif decide (i < (l.length : Int)) then (idxL l i).bind fun e => (v e).bind fun r => bif (!r) then some (.stop (.stop z)) else (n e).bind fun m => (chk .i64 (t + m)).bind fun t => (chk .i64 (i + 1)).bind fun u => some (.next (t, u)) else some (.stop (.next t))) :
    Is (loopM body fuel ((0 : Int), (0 : Int))) (SP (fun t => (∀ y ∈ l, V 30 y = true) ∧ t = (partsL l : Int)) (fun r => (∃ y ∈ l, V 30 y = false) ∧ r = z)) := by
  have hlen := len_parts l
  refine Is.upto (fun i (st : Int × Int) => st.2 = (i : Int) ∧ (∀ y ∈ l.take i, V 30 y = true) ∧ st.1 = (partsL (l.take i) : Int)) l.length (by omega) ⟨rfl, by simp, by simp [partsL]⟩ ?_ ?_
  · rintro i ⟨t, _⟩ hi ⟨rfl, h1, h2⟩
    obtain rfl : t = _ := h2
    have h3 := parts_take hi
    have h4 := parts_take_le l (i + 1)
    rw [hb]
    refine Is.dt (by omega) (Is.bnq (idxL_nat hi) (Is.bnq (hv _ (List.getElem_mem hi)) (Is.cnd (fun h => Is.stop ⟨⟨_, List.getElem_mem hi, by simpa using h⟩, rfl⟩) (fun h => ?_))))
    refine Is.bnq (hn _ (List.getElem_mem hi)) (Is.bnq (x := (partsL (l.take (i + 1)) : Int)) (by rw [chk_i64 (by omega) (by omega), h3]; congr 1) (Is.bnq (chk_succ (by omega)) (Is.next ⟨rfl, fun y hy => ?_, rfl⟩)))
    rw [take_snoc hi] at hy
    rcases List.mem_append.1 hy with hy | hy
    · exact h1 y hy
    · obtain rfl := List.mem_singleton.1 hy
      simpa using h
  · rintro ⟨t, _⟩ ⟨rfl, h1, h2⟩
    obtain rfl : t = _ := h2
    rw [List.take_length] at h1
    rw [hb]
    refine Is.df (by omega) (Is.stop ⟨h1, by rw [List.take_length]⟩)
theorem sp_mono {σ ρ : Type} {P : σ → Prop} {Q Q' : ρ → Prop} {s : Step σ ρ} (h : SP P Q s) (k : ∀ r, Q r → Q' r) : SP P Q' s := by
  cases s
  · exact h
  · exact k _ h
theorem check_ok {l : List T_Regex} (ok : ∀ x ∈ l, okT_Regex x) (hp : partsL l ≤ 1048576) : Is (M.ref09_Check l) (fun e => Ans l e () () ()) := by
  unfold M.ref09_Check
  have hn : ∀ y ∈ l, M.ref09_Nodes fuel y = some (parts y : Int) := fun y hy => refNodes_ok fuel y (by have := parts_mem hy; unfold fuel; omega) (by have := parts_mem hy; omega)
  refine Is.bs (P := fun t => (∀ y ∈ l, V 30 y = true) ∧ t = (partsL l : Int)) ((check_loop hp (v := M.ref08_Valid) (n := M.ref09_Nodes fuel) (fun y hy => refValid_ok (ok y hy)) hn (z := (1 : Int)) (fun _ _ => rfl)).mono fun s hs => sp_mono hs fun r hr => .inl ⟨hr.1, hr.2, rfl⟩) fun t ht => ?_
  obtain ⟨h1, rfl⟩ := ht
  exact Is.dcd (fun h => Is.pure (.inr (.inl ⟨h1, by omega, rfl, rfl⟩))) (fun h => Is.pure (.inr (.inr ⟨h1, by omega, rfl, rfl⟩)))
theorem behR_0 : BehR [[]] 1 (inQ []) := by
  refine ⟨rfl, fun p m h => ?_, fun p m h k => ?_⟩
  · rw [List.getElem?_singleton] at h
    split at h <;> cases h
    simp
  · rw [List.getElem?_singleton] at h
    split at h <;> cases h
    simp [inQ]
theorem from_ok {l : List T_Regex} (ok : ∀ x ∈ l, okT_Regex x) (hp : partsL l ≤ 1048576) : Is (M.nfa_FromRegexes l) (fun r => Ans l r.2 r.1 zN (nfaOf l)) := by
  unfold M.nfa_FromRegexes
  have hn : ∀ y ∈ l, M.nfa_nodes fuel y = some (parts y : Int) := fun y hy => nodes_ok fuel y (by have := parts_mem hy; unfold fuel; omega) (by have := parts_mem hy; omega)
  refine Is.bs (P := fun t => (∀ y ∈ l, V 30 y = true) ∧ t = (partsL l : Int)) ((check_loop hp (v := M.regex_Valid) (n := M.nfa_nodes fuel) (fun y hy => Valid_ok (ok y hy)) hn (z := (zN, (1 : Int))) (fun _ _ => rfl)).mono fun s hs => sp_mono hs fun r hr => .inl ⟨hr.1, by rw [hr.2], by rw [hr.2]⟩) fun t ht => ?_
  obtain ⟨h1, rfl⟩ := ht
  refine Is.dcd (fun h => Is.pure (.inr (.inl ⟨h1, by omega, rfl, rfl⟩))) (fun h => ?_)
  have h500 : partsL l ≤ 500 := by omega
  have hlen := len_parts l
  refine Is.mono (P := fun r => r = (nfaOf l, 0)) ?_ (fun r hr => .inr (.inr ⟨h1, h500, by rw [hr], by rw [hr]⟩))
  have hg := gd9_go l 0 s09 gd9_0
  have hgl := goF_len l 0 s09
  have hs0 : s09.1.S.length = 0 := rfl
  refine Is.bnd (P := fun (v : List (Vec 4) × List (List (Int × Bool)) × List Int) => v.1 = (goF 0 l s09).1.S ∧ BehR v.2.1 ((goF 0 l s09).1.S.length + 1) (inQ (goF 0 l s09).1.P) ∧ v.2.2 = (goF 0 l s09).2) ?_ ?_
  · refine Is.upto (fun i (st : List (Vec 4) × List (List (Int × Bool)) × List Int × Int) => st.2.2.2 = (i : Int) ∧ st.1 = (goF 0 (l.take i) s09).1.S ∧ BehR st.2.1 ((goF 0 (l.take i) s09).1.S.length + 1) (inQ (goF 0 (l.take i) s09).1.P) ∧ st.2.2.1 = (goF 0 (l.take i) s09).2) l.length (by omega) ⟨rfl, rfl, behR_0, rfl⟩ ?_ ?_
    · rintro i ⟨S, bh, a, _⟩ hi ⟨rfl, e1, e2, e3⟩
      simp only at e1 e2 e3
      subst e1 e3
      have gi := gd9_go (l.take i) 0 s09 gd9_0
      have gl := goF_len (l.take i) 0 s09
      have hpt := parts_take hi
      have hpl := parts_take_le l (i + 1)
      have hsn := goF_snoc l[i] (l.take i) 0 s09
      rw [← take_snoc hi, show 0 + (l.take i).length = i by rw [List.length_take]; omega] at hsn
      generalize goF 0 (l.take i) s09 = s at e2 gi gl hsn
      have hy := bd_len l[i] s.1
      have hyb := bd_bnd l[i] s.1
      have hyg := bd_grow l[i] s.1
      have hal := gi.len
      refine Is.dt (by omega) (Is.bnd (P := fun (v : List (Vec 4) × List (List (Int × Bool)) × List Int) => v.1 = (stF i l[i] s).1.S ∧ BehR v.2.1 ((stF i l[i] s).1.S.length + 1) (inQ (stF i l[i] s).1.P) ∧ v.2.2 = (stF i l[i] s).2) (Is.bnq (idxL_nat hi) (Is.bnd (expr_ok 30 fuel l[i] s.1 bh (h1 _ (List.getElem_mem hi)) (by unfold fuel; omega) e2 gi.cl (by omega)) ?_)) ?_)
      · rintro ⟨vp, vs, vbh⟩ ⟨f1, f2, f3⟩
        simp only at f1 f2 f3
        subst f1 f2
        refine Is.bnd (link_ok f3 (fr := [0]) (to := (bd l[i] s.1).1.fi) (fun p hp => by obtain rfl := List.mem_singleton.1 hp; omega) (by simp) (by omega)) ?_
        rintro ⟨ws, wbh⟩ ⟨g1, g2⟩
        simp only at g1 g2
        subst g1
        have hpl2 : (pad s.2 (bd l[i] s.1).2.S.length).length = (bd l[i] s.1).2.S.length + 1 := pad_len (by omega)
        refine Is.bnq (pad_loop (a := s.2) (n := (bd l[i] s.1).2.S.length) (by omega) (by omega) (fun _ => rfl)) ?_
        refine Is.bnq (set_loop (la := (bd l[i] s.1).1.la) (v := (i : Int)) (fun p hp => by rw [hpl2]; have := hyb.2 p hp; omega) (by omega) (fun _ _ => rfl)) ?_
        refine Is.of (fin_ok (f := fun y => ((bd l[i] s.1).2.S, wbh, y)) (by rw [setA_len, hpl2]; omega)) ⟨rfl, g2.congr fun p q => ?_, rfl⟩
        show _ ↔ (p, q) ∈ (bd l[i] s.1).2.P ++ prodP [0] (bd l[i] s.1).1.fi
        rw [List.mem_append, mem_prodP]
        rfl
      · rintro ⟨vs, vbh, va⟩ ⟨f1, f2, f3⟩
        simp only at f1 f2 f3
        subst f1 f3
        refine Is.bnq (chk_succ (by omega)) (Is.next ⟨rfl, ?_, ?_, ?_⟩)
        · rw [hsn]
        · rw [hsn]; exact f2
        · rw [hsn]
    · rintro ⟨S, bh, a, _⟩ ⟨rfl, e1, e2, e3⟩
      simp only at e1 e2 e3
      rw [List.take_length] at e1 e2 e3
      exact Is.df (by omega) (Is.stop ⟨e1, e2, e3⟩)
  · rintro ⟨S, bh, a⟩ ⟨e1, e2, e3⟩
    simp only at e1 e2 e3
    subst e1 e3
    have hal := hg.len
    have hcl : ∀ p q, (p, q) ∈ (goF 0 l s09).1.P → q < (goF 0 l s09).2.length := fun p q h => by have := hg.cl p q h; omega
    have hpos := hg.pos
    have hN : (goF 0 l s09).2.length ≤ 501 := by omega
    rw [← hal] at e2
    have hbl := e2.len
    unfold nfaOf
    generalize (goF 0 l s09).2 = acc at *
    generalize (goF 0 l s09).1.S = S at *
    generalize (goF 0 l s09).1.P = P at *
    have hL := arcsN_len S P acc.length
    have hk : ∀ k, k ≤ acc.length → (arcsN S P acc.length k).length ≤ 251001 := fun k hk => Nat.le_trans (hL k) (Nat.le_trans (Nat.mul_le_mul hk (Nat.le_refl _)) (Nat.le_trans (Nat.mul_le_mul hN hN) (by decide)))
    refine Is.bnq (x := arcsN S P acc.length acc.length) (Is.eq ?_) (Is.pure rfl)
    refine Is.upto (fun i (st : List T_NFAArc × Int) => st.2 = (i : Int) ∧ st.1 = arcsN S P acc.length i) acc.length (by omega) ⟨rfl, rfl⟩ ?_ ?_
    · rintro i ⟨ar, _⟩ hi ⟨rfl, h2⟩
      obtain rfl : ar = _ := h2
      have hib : i < bh.length := by omega
      refine Is.dt (by omega) (Is.bnq (x := arcsN S P acc.length (i + 1)) (Is.eq (Is.bnq (idxL_nat hib) (Is.bnq (keys_row e2 hcl (by omega) (List.getElem?_eq_getElem hib)) ?_))) (Is.bnq (chk_succ (by omega)) (Is.next ⟨rfl, rfl⟩)))
      have hrl := rowQ_len P acc.length i
      refine Is.upto (fun k (st : List T_NFAArc × Int) => st.2 = (k : Int) ∧ st.1 = arcsN S P acc.length i ++ ((rowQ P acc.length i).take k).map (mkA S i)) (rowQ P acc.length i).length (by omega) ⟨rfl, by simp⟩ ?_ ?_
      · rintro k ⟨a2, _⟩ hk2 ⟨rfl, h2⟩
        obtain rfl : a2 = _ := h2
        have hmem := mem_rowQ.1 (List.getElem_mem hk2)
        have hq1 := hpos _ _ hmem.2
        have h6 := hk i (by omega)
        refine Is.dt (by rw [toI_len]; omega) (Is.bnq (toI_idx hk2) (Is.bnq (x := (((rowQ P acc.length i)[k] : Int)) - 1) (chk_i64 (by omega) (by omega)) (Is.bnq (vec_idx hq1 (by omega)) (Is.bnq (appM_ok ?_) (Is.bnq (chk_succ (by omega)) (Is.next ⟨rfl, ?_⟩))))))
        · rw [List.length_append, List.length_map, List.length_take, List.length_singleton]; omega
        · rw [take_snoc hk2, List.map_append, List.append_assoc]
          rfl
      · rintro ⟨a2, _⟩ ⟨rfl, h2⟩
        obtain rfl : a2 = _ := h2
        refine Is.df (by rw [toI_len]; omega) (Is.stop ?_)
        rw [List.take_length, arcsN_succ]
        rfl
    · rintro ⟨ar, _⟩ ⟨rfl, h2⟩
      obtain rfl : ar = _ := h2
      exact Is.df (by omega) (Is.stop rfl)
/-! ### the automaton is valid -/
theorem mem_pad {a : List Int} {n : Nat} (h : ∀ x ∈ a, -1 ≤ x) : ∀ x ∈ pad a n, -1 ≤ x := by
  intro x hx
  rcases List.mem_append.1 hx with hx | hx
  · exact h x hx
  · rw [(List.mem_replicate.1 hx).2]; omega
theorem mem_setA {i : Int} (hi : 0 ≤ i) : ∀ (la : List Nat) {a : List Int}, (∀ x ∈ a, -1 ≤ x) → ∀ x ∈ setA la i a, -1 ≤ x
  | [], _, h => h
  | p :: la, a, h => mem_setA hi la (a := a.set p i) fun x hx => by
    rcases List.mem_or_eq_of_mem_set hx with hx | rfl
    · exact h x hx
    · omega
theorem mem_fin0 {i : Int} (hi : 0 ≤ i) {n : Bool} {a : List Int} (h : ∀ x ∈ a, -1 ≤ x) : ∀ x ∈ fin0 n i a, -1 ≤ x := by
  unfold fin0
  cases n && decide (a.getD 0 0 < 0)
  · exact h
  · intro x hx
    rcases List.mem_or_eq_of_mem_set hx with hx | rfl
    · exact h x hx
    · omega
theorem acc_low : ∀ (l : List T_Regex) (i : Nat) (s : Bs × List Int), (∀ x ∈ s.2, -1 ≤ x) → ∀ x ∈ (goF i l s).2, -1 ≤ x
  | [], _, _, h => h
  | y :: l, i, s, h => acc_low l (i + 1) (stF i y s) (mem_fin0 (Int.natCast_nonneg i) (mem_setA (Int.natCast_nonneg i) _ (mem_pad h)))
theorem mem_arcsN {S : List (Vec 4)} {P : List (Nat × Nat)} {N k : Nat} {a : T_NFAArc} : a ∈ arcsN S P N k ↔ ∃ p q, p < k ∧ q < N ∧ (p, q) ∈ P ∧ a = mkA S p q := by
  unfold arcsN arcsR
  rw [List.mem_flatMap]
  constructor
  · rintro ⟨p, hp, h⟩
    obtain ⟨q, hq, rfl⟩ := List.mem_map.1 h
    exact ⟨p, q, List.mem_range.1 hp, (mem_rowQ.1 hq).1, (mem_rowQ.1 hq).2, rfl⟩
  · rintro ⟨p, q, hp, hq, hR, rfl⟩
    exact ⟨p, List.mem_range.2 hp, List.mem_map.2 ⟨q, mem_rowQ.2 ⟨hq, hR⟩, rfl⟩⟩
theorem nfaOf_valid {l : List T_Regex} (h : partsL l ≤ 500) : VN (nfaOf l) ∧ (nfaOf l).Arcs.length ≤ 251001 := by
  have hg := gd9_go l 0 s09 gd9_0
  have hgl := goF_len l 0 s09
  have hs0 : s09.1.S.length = 0 := rfl
  have hal := hg.len
  have hN : (goF 0 l s09).2.length ≤ 501 := by omega
  refine ⟨⟨?_, ?_, ⟨?_, ?_⟩, rfl, acc_low l 0 s09 (by simp [s09]), ?_⟩, ?_⟩
  · show (1 : Int) ≤ ((goF 0 l s09).2.length : Int); omega
  · show ((goF 0 l s09).2.length : Int) ≤ 2000; omega
  · show (0 : Int) ≤ 0; omega
  · show (0 : Int) < ((goF 0 l s09).2.length : Int); omega
  · intro a ha
    obtain ⟨p, q, hp, hq, _, rfl⟩ := mem_arcsN.1 ha
    refine ⟨⟨?_, ?_⟩, ⟨?_, ?_⟩, fun e => by cases e⟩
    · show (0 : Int) ≤ (p : Int); omega
    · show (p : Int) < ((goF 0 l s09).2.length : Int); omega
    · show (0 : Int) ≤ (q : Int); omega
    · show (q : Int) < ((goF 0 l s09).2.length : Int); omega
  · exact Nat.le_trans (arcsN_len _ _ _ _) (Nat.le_trans (Nat.mul_le_mul hN hN) (by decide))
theorem law_errors9 (x0 : List T_Regex) (ok0 : (fun l => (∀ x ∈ l, okT_Regex x) ∧ l.length ≤ maxLen) x0) (up : partsL x0 ≤ 1048576) : M.law09_NfaFromRegexesErrors x0 = some true := by
  refine Is.eq ?_
  unfold M.law09_NfaFromRegexesErrors
  refine Is.bnq awake_true (Is.cf rfl (Is.dcd (fun _ => Is.pure rfl) (fun _ => ?_)))
  refine Is.bnd (from_ok ok0.1 up) ?_
  rintro ⟨n, e⟩ hn
  refine Is.bnd (check_ok ok0.1 up) fun f hf => ?_
  have key : e = f ∧ ∃ b, M.nfa_Valid n = some b ∧ b = (e == 0) := by
    have hz : ∃ b, M.nfa_Valid zN = some b ∧ b = false := by
      obtain ⟨b, h1, h2⟩ := validN_is (n := zN) (by simp [zN]) (by simp [zN])
      refine ⟨b, h1, ?_⟩
      cases b
      · rfl
      · have := (h2.1 rfl).pos; simp [zN] at this
    rcases hn with ⟨h1, rfl, rfl⟩ | ⟨h1, h2, rfl, rfl⟩ | ⟨h1, h2, rfl, rfl⟩
    · rcases hf with ⟨g1, rfl, _⟩ | ⟨g1, _, rfl, _⟩ | ⟨g1, _, rfl, _⟩
      · exact ⟨rfl, hz⟩
      · obtain ⟨y, hy, h⟩ := h1; rw [g1 y hy] at h; cases h
      · obtain ⟨y, hy, h⟩ := h1; rw [g1 y hy] at h; cases h
    · rcases hf with ⟨g1, rfl, _⟩ | ⟨g1, g2, rfl, _⟩ | ⟨g1, g2, rfl, _⟩
      · obtain ⟨y, hy, h⟩ := g1; rw [h1 y hy] at h; cases h
      · exact ⟨rfl, hz⟩
      · omega
    · rcases hf with ⟨g1, rfl, _⟩ | ⟨g1, g2, rfl, _⟩ | ⟨g1, g2, rfl, _⟩
      · obtain ⟨y, hy, h⟩ := g1; rw [h1 y hy] at h; cases h
      · omega
      · obtain ⟨hv, hl⟩ := nfaOf_valid h2
        have ha : (nfaOf x0).Accept.length ≤ 9223372036854775807 := by have := hv.acc; have := hv.most; omega
        obtain ⟨b, q1, q2⟩ := validN_is (n := nfaOf x0) (by omega) ha
        exact ⟨rfl, b, q1, q2.2 hv⟩
  obtain ⟨rfl, b, hb, rfl⟩ := key
  refine Is.bnq (x := true) (Is.eq (Is.ct (by simp) (Is.bnq hb (Is.pure (by simp))))) (Is.pure rfl)
end Go.Proofs.Ytajmekjcnbmaaaa
