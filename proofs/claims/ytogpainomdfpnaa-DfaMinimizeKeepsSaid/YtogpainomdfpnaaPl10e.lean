/- Plain facts on layer 10: the columns in use, the live states. -/
import Derived.Test.YtogpainomdfpnaaPl10b
import Derived.Test.YtogpainomdfpnaaPlNum
set_option linter.unusedVariables false
namespace Go.Proofs.Ytogpainomdfpnaa
open Go.Lx

def clsF (d : T_DFA) (b : Nat) : Int := d.Class.getD b 0
def numI {K : Type} [DecidableEq K] (σ : Nat → K) (i : Nat) : Int := (num σ i : Int)
def usedD (d : T_DFA) : T_DFA := ⟨(List.range 256).map (numI (clsF d)), d.Next.map (fun r => (D (clsF d) 256).map fun c => r.getD c.toNat 0), d.Accept⟩
/-- The step of a numbering. -/
theorem num_step {K K' : Type} [DecidableEq K] [BEq K'] [LawfulBEq K'] {P : K → Prop} {enc : K → K'} {m : List (K' × Int)} {σ : Nat → K} {i : Nat} (h : NumMap P enc m (D σ i)) (inj : ∀ k k', P k → P k' → enc k = enc k' → k = k') (hp : P (σ i)) :
    ((mget m (enc (σ i))).isSome = true ∧ (mget m (enc (σ i))).getD 0 = numI σ i ∧ NumMap P enc m (D σ (i + 1)) ∧ D σ (i + 1) = D σ i) ∨
    ((mget m (enc (σ i))).isSome = false ∧ ((D σ i).length : Int) = numI σ i ∧ NumMap P enc (mset m (enc (σ i)) ((D σ i).length : Int)) (D σ (i + 1)) ∧ D σ (i + 1) = D σ i ++ [σ i]) := by
  by_cases hm : σ i ∈ D σ i
  · obtain ⟨h1, h2⟩ := h.old hp hm
    refine .inl ⟨h1, ?_, by rw [D_old hm]; exact h, D_old hm⟩
    rw [h2, numI, num, D_old hm]
  · obtain ⟨h1, h2⟩ := h.new inj hp hm
    exact .inr ⟨h1, by rw [numI, num_new hm], by rw [D_new hm]; exact h2, D_new hm⟩
theorem class_get {d : T_DFA} (h : Ok d) {b : Nat} (hb : b < 256) : idxL d.Class (b : Int) = some (clsF d b) := by
  have := idxL_nat (l := d.Class) (i := b) (by rw [h.cls]; exact hb)
  rw [this]; simp [clsF, List.getD_eq_getElem?_getD, h.cls, hb]
theorem map_take_succ {α β : Type} {l : List α} {i : Nat} (f : α → β) (h : i < l.length) : (l.take (i + 1)).map f = (l.take i).map f ++ [f l[i]] := by
  rw [List.take_succ_eq_append_getElem h, List.map_append]; rfl
theorem used_eq {d : T_DFA} (h : Ok d) : M.dfa_used d = some (usedD d) := by
  refine Is.eq ?_
  unfold M.dfa_used
  have hcl : ((d.Class.length : Nat) : Int) = 256 := by rw [h.cls]; rfl
  rw [hcl]
  refine Is.bnq (x := List.replicate 256 0) (by rw [show (256 : Int) = ((256 : Nat) : Int) from rfl, mkM_nat (by omega)]; rfl) ?_
  refine Is.bnd (P := fun st => st = (D (clsF d) 256, (List.range 256).map (numI (clsF d)))) (Is.upto (fun i st => NumMap (fun _ => True) id st.1 (D (clsF d) i) ∧ st.2 = (D (clsF d) i, tab (numI (clsF d)) 256 i, (i : Int))) 256 (by omega) ⟨NumMap.nil, by rw [tab_zero]; rfl⟩ ?_ ?_) ?_
  · rintro i ⟨m, _⟩ hi ⟨hm, rfl⟩
    simp only [] at hm ⊢
    have hlen := D_len (clsF d) i
    refine Is.dt (by omega) (Is.bnq (class_get h hi) (Is.bnd (P := fun r => NumMap (fun _ => True) id r.1 (D (clsF d) (i + 1)) ∧ r.2 = (D (clsF d) (i + 1), numI (clsF d) i)) ?_ ?_))
    · rcases num_step hm (fun _ _ _ _ e => e) trivial with ⟨h1, h2, h3, h4⟩ | ⟨h1, h2, h3, h4⟩
      · simp only [id] at h1 h2
        rw [h1, h2]
        exact Is.cf rfl (Is.pure ⟨h3, by rw [h4]⟩)
      · simp only [id] at h1 h3
        rw [h1]
        exact Is.ct rfl (Is.bnq (appM_ok (by simp; omega)) (Is.pure ⟨h3, by rw [h2, h4]⟩))
    · rintro ⟨m2, _⟩ ⟨h1, rfl⟩
      exact Is.bnq (setL_tab hi) (Is.bnq (chk_succ (by omega)) (Is.next ⟨h1, rfl⟩))
  · rintro ⟨m, _⟩ ⟨hm, rfl⟩
    exact Is.df (by omega) (Is.stop (by rw [tab_all]))
  have hD := D_len (clsF d) 256
  have hC : ∀ c ∈ D (clsF d) 256, 0 ≤ c ∧ c < (cols d : Int) := fun c hc => by
    obtain ⟨b, hb, rfl⟩ := mem_D.1 hc
    exact cls_lt h hb
  unfold usedD
  generalize D (clsF d) 256 = C at hD hC ⊢
  rintro _ rfl
  have hn := h.max
  refine Is.bnd (P := fun r => r = d.Next.map (fun r => C.map fun c => r.getD c.toNat 0)) (Is.upto (fun i st => st = ((d.Next.take i).map (fun r => C.map fun c => r.getD c.toNat 0), (i : Int))) d.Next.length (by omega) (by simp) ?_ ?_) ?_
  · rintro i _ hi rfl
    simp only []
    refine Is.dt (by omega) (Is.bnd (P := fun r => r = (d.Next.take (i + 1)).map (fun r => C.map fun c => r.getD c.toNat 0)) ?_ ?_)
    · refine Is.bnq (idxL_nat hi) (Is.bnd (P := fun r => r = C.map fun c => d.Next[i].getD c.toNat 0) (Is.upto (fun j st => st = ((C.take j).map (fun c => d.Next[i].getD c.toNat 0), (j : Int))) C.length (by omega) (by simp) ?_ ?_) ?_)
      · rintro j _ hj rfl
        simp only []
        have hc := hC _ (List.getElem_mem hj)
        have hr := h.row _ (List.getElem_mem hi)
        refine Is.dt (by omega) (Is.bnq (idxL_nat hj) (Is.bnq (idxL_int (d := 0) hc.1 (by rw [hr.1]; exact hc.2)) (Is.bnq (appM_ok (by simp; omega)) (Is.bnq (chk_succ (by omega)) (Is.next ?_)))))
        rw [map_take_succ _ hj]
      · rintro _ rfl
        exact Is.df (by simp) (Is.stop (by simp))
      · rintro _ rfl
        refine Is.bnq (appM_ok (by simp; omega)) (Is.pure ?_)
        rw [map_take_succ _ hi]
    · rintro _ rfl
      exact Is.bnq (chk_succ (by omega)) (Is.next rfl)
  · rintro _ rfl
    exact Is.df (by simp) (Is.stop (by simp))
  · rintro _ rfl
    exact Is.pure rfl
/-- All columns have bytes. -/
def Full (d : T_DFA) : Prop := ∀ c, c < cols d → ∃ b, b < 256 ∧ clsF d b = (c : Int)
section
variable {d : T_DFA} (h : Ok d)
include h
omit h in
theorem usedD_cls {b : Nat} (hb : b < 256) : clsF (usedD d) b = numI (clsF d) b := by simp [clsF, usedD, List.getD_eq_getElem?_getD, hb]
omit h in
theorem usedD_row {s : Nat} (hs : s < d.Next.length) : (usedD d).Next.getD s [] = (D (clsF d) 256).map fun c => (d.Next.getD s []).getD c.toNat 0 := by
  simp [usedD, List.getD_eq_getElem?_getD, hs]
theorem usedD_cols : cols (usedD d) = (D (clsF d) 256).length := by
  unfold cols
  rw [usedD_row (by have := h.pos; omega), List.length_map]
omit h in
theorem usedD_step {s : Int} (hs : inR d s) {b : Nat} (hb : b < 256) : stepN (usedD d) s b = stepN d s b := by
  unfold stepN
  split
  · rfl
  · rename_i h0
    rw [usedD_row (by have := hs.2; omega)]
    have e : (usedD d).Class.getD b 0 = numI (clsF d) b := usedD_cls hb
    rw [e]
    simp only [numI, Int.toNat_natCast]
    rw [List.getD_eq_getElem?_getD, List.getElem?_map, D_get hb]
    rfl
theorem usedD_full : Full (usedD d) := by
  intro c hc
  rw [usedD_cols h] at hc
  obtain ⟨b, hb, e, _⟩ := num_onto hc
  exact ⟨b, hb, by rw [usedD_cls hb, numI, e]⟩
theorem usedD_ok : Ok (usedD d) where
  cls := by simp [usedD]
  pos := by simpa [usedD] using h.pos
  max := by simpa [usedD] using h.max
  acc := by simpa [usedD] using h.acc
  col := by
    rw [usedD_cols h]
    have := num_lt (σ := clsF d) (i := 0) (j := 256) (by omega)
    omega
  inc c hc := by
    simp only [usedD, List.mem_map, List.mem_range] at hc
    obtain ⟨b, hb, rfl⟩ := hc
    rw [usedD_cols h]
    have := num_lt (σ := clsF d) hb
    exact ⟨by simp [numI], by simp [numI]; omega⟩
  row r hr := by
    simp only [usedD, List.mem_map] at hr
    obtain ⟨q, hq, rfl⟩ := hr
    have hqr := h.row q hq
    refine ⟨by rw [List.length_map, usedD_cols h], fun t ht => ?_⟩
    simp only [List.mem_map] at ht
    obtain ⟨c, hc, rfl⟩ := ht
    obtain ⟨b, hb, rfl⟩ := mem_D.1 hc
    have := cls_lt h hb
    have := hqr.2 _ (getD_mem (l := q) (d := 0) (i := (clsF d b).toNat) (by rw [hqr.1]; unfold clsF; omega))
    simpa [usedD] using this
  accs := h.accs
end

/-! ### the results of runs -/
def res (d : T_DFA) (s : Int) (w : Str) : Int := accN d (walkN d s w)
def Live (d : T_DFA) (s : Int) : Prop := ∃ w, 0 ≤ res d s w
theorem res_nil (d : T_DFA) (s : Int) : res d s [] = accN d s := rfl
theorem res_cons (d : T_DFA) (s : Int) (c : UInt8) (w : Str) : res d s (c :: w) = res d (stepN d s c.toNat) w := rfl
theorem res_neg {d : T_DFA} {s : Int} (hs : s < 0) (w : Str) : res d s w = -1 := by
  induction w generalizing s with
  | nil => simp [res, walkN, accN, hs]
  | cons c w ih => rw [res_cons]; exact ih (by unfold stepN; rw [if_pos hs]; omega)
theorem accN_ge {d : T_DFA} (h : Ok d) {s : Int} (hs : inR d s) : -1 ≤ accN d s := by
  unfold accN
  split
  · omega
  · exact h.accs _ (getD_mem (by rw [h.acc]; have := hs.2; omega))
theorem res_ge {d : T_DFA} (h : Ok d) {s : Int} (hs : inR d s) (w : Str) : -1 ≤ res d s w := accN_ge h (walkN_in h hs w)
theorem usedD_res {d : T_DFA} (h : Ok d) {s : Int} (hs : inR d s) (w : Str) : res (usedD d) s w = res d s w := by
  induction w generalizing s with
  | nil => rfl
  | cons c w ih =>
    rw [res_cons, res_cons, usedD_step hs c.toNat_lt]
    exact ih (stepN_in h hs c.toNat_lt)
/-- An entry of a row is the successor for some byte. -/
theorem row_step {d : T_DFA} (h : Ok d) (hf : Full d) {s c : Nat} (hs : s < d.Next.length) (hc : c < cols d) : ∃ b, b < 256 ∧ stepN d (s : Int) b = (d.Next.getD s []).getD c 0 := by
  obtain ⟨b, hb, e⟩ := hf c hc
  refine ⟨b, hb, ?_⟩
  unfold stepN
  unfold clsF at e
  rw [if_neg (by omega), e]; simp
theorem step_row {d : T_DFA} (h : Ok d) {s b : Nat} (hs : s < d.Next.length) (hb : b < 256) : ∃ c, c < cols d ∧ clsF d b = (c : Int) ∧ stepN d (s : Int) b = (d.Next.getD s []).getD c 0 := by
  have := cls_lt h hb
  refine ⟨(clsF d b).toNat, by unfold clsF; omega, by unfold clsF; omega, ?_⟩
  unfold stepN
  rw [if_neg (by omega)]; simp [clsF]
/-- There are no more columns than bytes. -/
theorem cols_256 {d : T_DFA} (hf : Full d) : cols d ≤ 256 := by
  -- each column's byte
  have key : ∀ n, n ≤ cols d → ∃ l : List Nat, l.length = n ∧ (∀ x ∈ l, x < 256) ∧ l.map (clsF d) = (List.range n).map (fun (i : Nat) => (i : Int)) := by
    intro n
    induction n with
    | zero => intro _; exact ⟨[], rfl, by simp, rfl⟩
    | succ n ih =>
      intro hn
      obtain ⟨l, h1, h2, h3⟩ := ih (by omega)
      obtain ⟨b, hb, e⟩ := hf n (by omega)
      refine ⟨l ++ [b], by simp [h1], fun x hx => ?_, by rw [List.map_append, h3, List.range_succ, List.map_append]; simp [e]⟩
      rcases List.mem_append.1 hx with hx | hx
      · exact h2 x hx
      · rw [List.mem_singleton.1 hx]; exact hb
  obtain ⟨l, h1, h2, h3⟩ := key (cols d) (Nat.le_refl _)
  have hn : l.Nodup := by
    have : (l.map (clsF d)).Nodup := by
      rw [h3]
      refine List.pairwise_map.2 (List.nodup_range.imp fun {a b} hab he => hab ?_)
      omega
    exact List.Pairwise.of_map (clsF d) (fun a b hab e => hab (by rw [e])) this
  have := nodup_le 256 l hn h2
  omega
theorem cols_le {d : T_DFA} (h : Ok d) (hf : Full d) : cols d ≤ 9223372036854775807 := by have := cols_256 hf; omega
end Go.Proofs.Ytogpainomdfpnaa
