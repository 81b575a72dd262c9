/- Plain facts on layer 10: live states, and the automaton without dead targets. -/
import Derived.Test.YtogpainomdfpnaaPl10e
set_option linter.unusedVariables false
namespace Go.Proofs.Ytogpainomdfpnaa
open Go.Lx

def bad (l : List Bool) (t : Int) : Bool := decide (0 ≤ t) && !(l.getD t.toNat false)
def falses (l : List Bool) : Nat := l.countP (fun b => !b)
theorem falses_set {l : List Bool} {i : Nat} (hi : i < l.length) (h : l[i] = false) : falses (l.set i true) + 1 = falses l := by
  unfold falses
  induction l generalizing i with
  | nil => simp at hi
  | cons a l ih =>
    cases i with
    | zero => simp at h; subst h; simp
    | succ i =>
      have := ih (i := i) (by simpa using hi) (by simpa using h)
      simp only [List.set_cons_succ, List.countP_cons]
      omega
theorem falses_le (l : List Bool) : falses l ≤ l.length := List.countP_le_length
theorem live1_eq {l : List Bool} {t : Int} (ht : t < l.length) : M.dfa_live_1 t l = some (decide (0 ≤ t) && l.getD t.toNat false) := by
  refine Is.eq ?_
  unfold M.dfa_live_1
  refine Is.bnd (P := fun b => b = (decide (0 ≤ t) && l.getD t.toNat false)) (Is.dcd (fun h => ?_) fun h => Is.pure ?_) (fun b hb => Is.pure hb)
  · exact Is.bnq (idxL_int (d := false) h ht) (Is.pure (by simp [h]))
  · simp [h]
/-- No live state is missing, as far as one step sees. -/
def Closed1 (d : T_DFA) (l : List Bool) (s : Nat) : Prop := ∀ t ∈ d.Next.getD s [], 0 ≤ t → l.getD t.toNat false = true → l.getD s false = true
theorem live_is {d : T_DFA} (h : Ok d) (hf : Full d) : Is (M.dfa_live d) (fun l => l.length = d.Next.length ∧ ∀ s, s < d.Next.length → (l.getD s false = true ↔ Live d (s : Int))) := by
  unfold M.dfa_live
  have hmax := h.max
  have hacc := h.acc
  refine Is.bnq (mkM_nat (by omega)) ?_
  refine Is.bnd (P := fun l => l.length = d.Next.length ∧ ∀ s, s < d.Next.length → l.getD s false = decide (0 ≤ d.Accept.getD s 0))
    (Is.upto (fun i st => st.2 = (i : Int) ∧ st.1.length = d.Next.length ∧ ∀ s, s < i → st.1.getD s false = decide (0 ≤ d.Accept.getD s 0)) d.Accept.length (by omega) ⟨rfl, by simp, by omega⟩ ?_ ?_) ?_
  · rintro i ⟨l, _⟩ hi ⟨rfl, h1, h2⟩
    simp only [] at h1 h2 ⊢
    refine Is.dt (by omega) (Is.bnq (idxL_nat hi) (Is.bnq (setL_nat (by omega)) (Is.bnq (chk_succ (by omega)) (Is.next ⟨rfl, by simpa using h1, fun s hs => ?_⟩))))
    simp only [List.getD_eq_getElem?_getD, List.getElem?_set]
    by_cases e : i = s
    · subst e
      rw [if_pos rfl, if_pos (by omega)]
      simp [hi]
    · rw [if_neg e]
      have := h2 s (by omega)
      simpa [List.getD_eq_getElem?_getD] using this
  · rintro ⟨l, _⟩ ⟨rfl, h1, h2⟩
    exact Is.df (by omega) (Is.stop ⟨h1, fun s hs => h2 s (by omega)⟩)
  intro l0 ⟨hl0, hv0⟩
  have zero_live : ∀ s : Nat, s < d.Next.length → l0.getD s false = true → Live d (s : Int) := fun s hs h1 => ⟨[], by
    rw [hv0 s hs] at h1
    have h1 := of_decide_eq_true h1
    rw [res_nil]; unfold accN
    rw [if_neg (by omega)]; simpa using h1⟩
  refine Is.bnd (P := fun l => l.length = d.Next.length ∧ ∀ s, s < d.Next.length → (l.getD s false = true ↔ Live d (s : Int))) ?_ (fun l hl => Is.pure hl)
  -- what holds all the time
  let G : List Bool → Prop := fun l => l.length = d.Next.length ∧ (∀ s, s < d.Next.length → l.getD s false = true → Live d (s : Int)) ∧ ∀ s, s < d.Next.length → 0 ≤ d.Accept.getD s 0 → l.getD s false = true
  refine Is.while (fun st => G st.1 ∧ (st.2 = false → ∀ s, s < d.Next.length → Closed1 d st.1 s)) (fun st => 2 * falses st.1 + (bif st.2 then 1 else 0)) ⟨⟨hl0, zero_live, fun s hs ha => by rw [hv0 s hs]; simpa using ha⟩, fun h => by cases h⟩ (by have := falses_le l0; simp only [cond_true]; omega) ?_
  rintro ⟨l, more⟩ ⟨hG, hc⟩
  simp only [] at hG hc ⊢
  cases more
  · -- the end
    refine Is.cf rfl (Is.stop ⟨hG.1, fun s hs => ⟨hG.2.1 s hs, fun ⟨w, hw⟩ => ?_⟩⟩)
    have hc := hc rfl
    clear hv0 zero_live
    induction w generalizing s with
    | nil =>
      rw [res_nil] at hw; unfold accN at hw
      rw [if_neg (by omega)] at hw
      exact hG.2.2 s hs (by simpa using hw)
    | cons c w ih =>
      rw [res_cons] at hw
      obtain ⟨k, hk, _, e⟩ := step_row h hs c.toNat_lt
      have hin := stepN_in h (s := (s : Int)) ⟨by omega, by omega⟩ c.toNat_lt
      by_cases h0 : stepN d (s : Int) c.toNat < 0
      · rw [res_neg h0] at hw; omega
      · obtain ⟨t, ht⟩ := Int.eq_ofNat_of_zero_le (show 0 ≤ stepN d (s : Int) c.toNat by omega)
        rw [ht] at hw hin
        have htn : t < d.Next.length := by have := hin.2; omega
        have := ih t htn ⟨w, hw⟩ hw
        refine hc s hs (t : Int) ?_ (by omega) (by simpa using this)
        have e2 : (t : Int) = (d.Next.getD s []).getD k 0 := by rw [← e, ht]
        rw [e2]
        exact getD_mem (by rw [(row_get h hs).1]; exact hk)
  · -- a round
    refine Is.ct rfl (Is.upto (fun i st => st.2.2 = (i : Int) ∧ G st.1 ∧ ((st.2.1 = true ∧ falses st.1 < falses l) ∨ (st.2.1 = false ∧ st.1 = l ∧ ∀ s, s < i → Closed1 d l s))) d.Next.length (by omega) ⟨rfl, hG, .inr ⟨rfl, rfl, fun s hs => by omega⟩⟩ ?_ ?_)
    · rintro i ⟨l1, more1, _⟩ hi ⟨rfl, hG1, hm1⟩
      simp only [] at hG1 hm1 ⊢
      have hil : i < l1.length := by rw [hG1.1]; exact hi
      have hrow := row_get h hi
      have hri : d.Next.getD i [] = d.Next[i] := by simp [List.getD_eq_getElem?_getD, hi]
      rw [hri] at hrow
      refine Is.dt (by omega) (Is.bnd (P := fun r => G r.1 ∧ ((r.2 = true ∧ falses r.1 < falses l) ∨ (r.2 = false ∧ r.1 = l ∧ ∀ s, s < i + 1 → Closed1 d l s))) ?_ ?_)
      · refine Is.bnq (idxL_nat hi) (Is.bnd (P := fun b => b = (!l1[i] && d.Next[i].any fun t => decide (0 ≤ t) && l1.getD t.toNat false)) ?_ ?_)
        · refine Is.bnq (idxL_nat hil) (Is.cnd (fun e => ?_) fun e => Is.pure (by rw [e]; rfl))
          refine Is.bnq (contains_eq (p := fun t => decide (0 ≤ t) && l1.getD t.toNat false) (fun x hx => live1_eq (by rw [hG1.1]; exact (hrow.2 x hx).2)) ?_) (Is.pure (by rw [e]; simp))
          rw [hrow.1]
          exact cols_le h hf
        · rintro _ rfl
          cases hv : (!l1[i] && d.Next[i].any fun t => decide (0 ≤ t) && l1.getD t.toNat false)
          · refine Is.cf rfl (Is.pure ⟨hG1, ?_⟩)
            rcases hm1 with hm1 | ⟨e1, rfl, hcl⟩
            · exact .inl hm1
            · refine .inr ⟨e1, rfl, fun s hs => ?_⟩
              by_cases es : s = i
              · subst es
                intro t ht h0 hlt
                rw [hri] at ht
                have hli : l1.getD s false = l1[s] := by simp [List.getD_eq_getElem?_getD, hil]
                rw [hli]
                cases hls : l1[s]
                · rw [hls] at hv
                  simp only [Bool.not_false, Bool.true_and] at hv
                  have := List.any_eq_false.1 hv t ht
                  rw [dec_t h0, hlt] at this
                  simp at this
                · rfl
              · exact hcl s (by omega)
          · refine Is.ct rfl (Is.bnq (setL_nat hil) (Is.pure ⟨⟨by simpa using hG1.1, fun s hs => ?_, fun s hs ha => ?_⟩, .inl ⟨rfl, ?_⟩⟩))
            · simp only [List.getD_eq_getElem?_getD, List.getElem?_set]
              by_cases e : i = s
              · subst e
                intro _
                simp only [Bool.and_eq_true] at hv
                obtain ⟨t, ht, htl⟩ := List.any_eq_true.1 hv.2
                simp only [Bool.and_eq_true, decide_eq_true_eq] at htl
                obtain ⟨n, rfl⟩ := Int.eq_ofNat_of_zero_le htl.1
                have hn : n < d.Next.length := by have := (hrow.2 _ ht).2; omega
                obtain ⟨w, hw⟩ := hG1.2.1 n hn (by simpa using htl.2)
                obtain ⟨c, hc, ec⟩ := List.mem_iff_getElem.1 ht
                obtain ⟨b, hb, eb⟩ := row_step h hf hi (c := c) (by rw [← hrow.1]; exact hc)
                rw [hri] at eb
                have : (d.Next[i]).getD c 0 = (n : Int) := by simp [List.getD_eq_getElem?_getD, hc, ec]
                rw [this] at eb
                refine ⟨UInt8.ofNat b :: w, ?_⟩
                have e1 : (UInt8.ofNat b).toNat = b := by simp; omega
                rw [res_cons, e1, eb]; exact hw
              · rw [if_neg e]
                have := hG1.2.1 s hs
                simpa [List.getD_eq_getElem?_getD] using this
            · simp only [List.getD_eq_getElem?_getD, List.getElem?_set]
              by_cases e : i = s
              · subst e; rw [if_pos rfl, if_pos hil]; rfl
              · rw [if_neg e]
                have := hG1.2.2 s hs ha
                simpa [List.getD_eq_getElem?_getD] using this
            · have hf1 := falses_set hil (by simp at hv; exact hv.1)
              rcases hm1 with ⟨_, h1⟩ | ⟨_, rfl, _⟩ <;> simp only [] <;> omega
      · rintro ⟨l2, m2⟩ ⟨h1, h2⟩
        exact Is.bnq (chk_succ (by omega)) (Is.next ⟨rfl, h1, h2⟩)
    · rintro ⟨l1, more1, _⟩ ⟨rfl, hG1, hm1⟩
      simp only [] at hG1 hm1 ⊢
      refine Is.df (by omega) (Is.stop ?_)
      rcases hm1 with ⟨rfl, h1⟩ | ⟨rfl, rfl, hcl⟩
      · exact ⟨⟨hG1, fun h => by cases h⟩, by simp only [cond_true]; omega⟩
      · exact ⟨⟨hG1, fun _ => hcl⟩, by simp only [cond_true, cond_false]; omega⟩
/-- The automaton without transitions to dead states. -/
def prunedBy (l : List Bool) (d : T_DFA) : T_DFA := ⟨d.Class, d.Next.map (·.map fun t => if bad l t then -1 else t), d.Accept⟩
theorem clone_eq {l : List Int} (h : l.length * 8 ≤ 140737488355328) : M.slices_Clone_int_int l = some l := by
  unfold M.slices_Clone_int_int
  rw [appM_ok (by simpa using h)]; rfl
theorem pruned_is {d : T_DFA} (h : Ok d) (hf : Full d) : Is (M.dfa_pruned d) (fun e => ∃ l : List Bool, e = prunedBy l d ∧ ∀ s, s < d.Next.length → (l.getD s false = true ↔ Live d (s : Int))) := by
  unfold M.dfa_pruned
  have hmax := h.max
  have hcol := cols_256 hf
  refine Is.bnd (live_is h hf) fun l ⟨hl, hv⟩ => ?_
  refine Is.bnd (P := fun r => r = (prunedBy l d).Next) (Is.upto (fun i st => st = ((d.Next.take i).map (·.map fun t => if bad l t then -1 else t), (i : Int))) d.Next.length (by omega) (by simp) ?_ ?_) ?_
  · rintro i _ hi rfl
    simp only []
    have hrow := h.row _ (List.getElem_mem hi)
    generalize hq : d.Next[i] = q at hrow
    refine Is.dt (by omega) (Is.bnd (P := fun r => r = (d.Next.take (i + 1)).map (·.map fun t => if bad l t then -1 else t)) ?_ ?_)
    · refine Is.bnq ((idxL_nat hi).trans (congrArg some hq)) (Is.bnq (clone_eq (by omega)) (Is.bnd (P := fun r => r = q.map fun t => if bad l t then -1 else t)
        (Is.upto (fun j st => st = ((q.take j).map (fun t => if bad l t then -1 else t) ++ q.drop j, (j : Int))) q.length (by omega) (by simp) ?_ ?_) ?_))
      · rintro j _ hj rfl
        simp only []
        have hqj := hrow.2 _ (List.getElem_mem hj)
        generalize hA : (q.take j).map (fun t => if bad l t then -1 else t) = A
        have hAl : A.length = j := by rw [← hA]; simp; omega
        have hdr : q.drop j = q[j] :: q.drop (j + 1) := List.drop_eq_getElem_cons hj
        have hlen : (A ++ q.drop j).length = q.length := by simp [hAl]; omega
        have hget : idxL (A ++ q.drop j) (j : Int) = some q[j] := by
          rw [idxL_nat (by rw [hlen]; exact hj)]
          simp [List.getElem_append_right, hAl]
        refine Is.dt (by omega) (Is.bnd (P := fun r => r = (q.take (j + 1)).map (fun t => if bad l t then -1 else t) ++ q.drop (j + 1)) ?_ ?_)
        · rw [map_take_succ _ hj, hA]
          refine Is.bnq hget (Is.bnd (P := fun b => b = bad l q[j]) (Is.dcd (fun h0 => Is.bnq (idxL_int (d := false) h0 (by rw [hl]; exact hqj.2)) (Is.pure (by simp [bad, h0]))) fun h0 => Is.pure (by simp [bad, h0])) ?_)
          rintro _ rfl
          cases hb : bad l q[j]
          · refine Is.cf rfl (Is.pure ?_)
            rw [hdr]; simp
          · refine Is.ct rfl (Is.bnq (setL_nat (by rw [hlen]; exact hj)) (Is.pure ?_))
            rw [hdr, List.set_append, if_neg (by omega), hAl, Nat.sub_self, List.set_cons_zero, if_pos rfl, List.append_assoc]; rfl
        · rintro _ rfl
          exact Is.bnq (chk_succ (by omega)) (Is.next rfl)
      · rintro _ rfl
        exact Is.df (by simp) (Is.stop (by simp))
      · rintro _ rfl
        refine Is.bnq (appM_ok (by simp; omega)) (Is.pure ?_)
        rw [map_take_succ _ hi, hq]
    · rintro _ rfl
      exact Is.bnq (chk_succ (by omega)) (Is.next rfl)
  · rintro _ rfl
    exact Is.df (by simp) (Is.stop (by simp [prunedBy]))
  · rintro _ rfl
    exact Is.pure ⟨l, rfl, hv⟩
section
variable {d : T_DFA} {l : List Bool} (h : Ok d) (hl : ∀ s, s < d.Next.length → (l.getD s false = true ↔ Live d (s : Int)))
theorem pr_cols (hp : 1 ≤ d.Next.length) : cols (prunedBy l d) = cols d := by
  simp [cols, prunedBy, List.getD_eq_getElem?_getD, show 0 < d.Next.length by omega]
include h in
theorem pr_ok : Ok (prunedBy l d) where
  cls := h.cls
  pos := by simpa [prunedBy] using h.pos
  max := by simpa [prunedBy] using h.max
  acc := by simpa [prunedBy] using h.acc
  col := by rw [pr_cols h.pos]; exact h.col
  inc c hc := by rw [pr_cols h.pos]; exact h.inc c hc
  row r hr := by
    simp only [prunedBy, List.mem_map] at hr
    obtain ⟨q, hq, rfl⟩ := hr
    have hqr := h.row q hq
    have hp := h.pos
    refine ⟨by rw [List.length_map, pr_cols h.pos]; exact hqr.1, fun t ht => ?_⟩
    simp only [List.mem_map] at ht
    obtain ⟨c, hc, rfl⟩ := ht
    have := hqr.2 c hc
    simp only [prunedBy, List.length_map]
    split
    · exact ⟨by omega, by omega⟩
    · exact this
  accs := h.accs
include h in
theorem pr_step {s : Int} (hs : inR d s) {b : Nat} (hb : b < 256) : stepN (prunedBy l d) s b = if bad l (stepN d s b) then -1 else stepN d s b := by
  unfold stepN
  by_cases h0 : s < 0
  · simp only [if_pos h0, bad]
    rw [dec_f (by omega)]; simp
  · simp only [if_neg h0]
    have hsn : s.toNat < d.Next.length := by have := hs.2; omega
    have hr := row_get h hsn
    have hc := cls_lt h hb
    have e1 : (prunedBy l d).Next.getD s.toNat [] = (d.Next.getD s.toNat []).map fun t => if bad l t then -1 else t := by
      simp [prunedBy, List.getD_eq_getElem?_getD, hsn]
    have e2 : (prunedBy l d).Class = d.Class := rfl
    rw [e1, e2]
    generalize d.Next.getD s.toNat [] = q at hr ⊢
    generalize d.Class.getD b 0 = cc at hc ⊢
    rw [List.getD_eq_getElem?_getD, List.getElem?_map, List.getD_eq_getElem?_getD]
    have hlt : cc.toNat < q.length := by rw [hr.1]; omega
    rw [List.getElem?_eq_getElem hlt]; rfl
include h hl in
theorem pr_res {s : Int} (hs : inR d s) (w : Str) : res (prunedBy l d) s w = res d s w := by
  induction w generalizing s with
  | nil => rfl
  | cons c w ih =>
    rw [res_cons, res_cons, pr_step h hs c.toNat_lt]
    have hin := stepN_in h hs c.toNat_lt
    split
    · rename_i hb
      rw [res_neg (by omega)]
      simp only [bad, Bool.and_eq_true, decide_eq_true_eq, Bool.not_eq_true'] at hb
      have hge := res_ge h hin w
      by_cases hlt : 0 ≤ res d (stepN d s c.toNat) w
      · exfalso
        obtain ⟨t, ht⟩ := Int.eq_ofNat_of_zero_le hb.1
        rw [ht] at hlt hb hin
        have := (hl t (by have := hin.2; omega)).2 ⟨w, hlt⟩
        simp only [Int.toNat_natCast] at hb
        rw [this] at hb; cases hb.2
      · omega
    · exact ih hin
include h hl in
/-- All targets are live. -/
theorem pr_live {s : Int} (hs : inR d s) {b : Nat} (hb : b < 256) (h0 : 0 ≤ stepN (prunedBy l d) s b) : Live (prunedBy l d) (stepN (prunedBy l d) s b) := by
  rw [pr_step h hs hb] at h0 ⊢
  have hin := stepN_in h hs hb
  split at h0
  · omega
  · rename_i hb'
    rw [if_neg hb']
    simp only [bad, dec_t h0, Bool.true_and, Bool.not_eq_true', Bool.not_eq_false] at hb'
    obtain ⟨t, ht⟩ := Int.eq_ofNat_of_zero_le h0
    rw [ht] at hb' hin ⊢
    obtain ⟨w, hw⟩ := (hl t (by have := hin.2; omega)).1 (by simpa using hb')
    exact ⟨w, by rw [pr_res h hl hin]; exact hw⟩
end
theorem pr_full {d : T_DFA} {l : List Bool} (h : Ok d) (hf : Full d) : Full (prunedBy l d) := by
  intro c hc
  rw [pr_cols h.pos] at hc
  exact hf c hc
end Go.Proofs.Ytogpainomdfpnaa
