/- Plain facts on layer 10: the reachable parts, the classes of bytes, their least bytes. -/
import Derived.Test.YtogpainomdfpnaaPl10g
set_option linter.unusedVariables false
namespace Go.Proofs.Ytogpainomdfpnaa
open Go.Lx

def gq (p : List Int) (x : Int) : Int := gp p x.toNat
theorem getD_app {α : Type} {l : List α} {i : Nat} (h : i < l.length) (r : List α) (x : α) : (l ++ r).getD i x = l.getD i x := by
  rw [List.getD_eq_getElem?_getD, List.getElem?_append_left h, ← List.getD_eq_getElem?_getD]
theorem idx_D {l : List Int} {i : Nat} (h : i < l.length) : idxL l (i : Int) = some (l.getD i 0) := by
  rw [idxL_nat h, List.getD_eq_getElem?_getD, List.getElem?_eq_getElem h]; rfl
section
variable {d : T_DFA} {p : List Int} (h : Ok d) (hf : Full d) (hp : PartOk d p)
include hp in
theorem gq_idx {x : Int} (h0 : 0 ≤ x) (h1 : x < (d.Next.length : Int)) : idxL p x = some (gq p x) := by
  rw [idxL_int (d := 0) h0 (by rw [hp.len]; exact h1)]; rfl
include hp in
theorem gq_lt {x : Int} (h0 : 0 ≤ x) (h1 : x < (d.Next.length : Int)) : 0 ≤ gq p x ∧ gq p x < (d.Next.length : Int) := hp.lt x.toNat (by omega)
include hp in
theorem gq_eqv {x y : Int} (h0 : 0 ≤ x) (h1 : x < (d.Next.length : Int)) (k0 : 0 ≤ y) (k1 : y < (d.Next.length : Int)) : gq p x = gq p y ↔ Eqv d x y := by
  have := hp.eq x.toNat y.toNat (by omega) (by omega)
  rw [show (x.toNat : Int) = x by omega, show (y.toNat : Int) = y by omega] at this
  exact this
include hp in
/-- No more than the states. -/
theorem parts_le {l : List Int} (hl : ∀ x ∈ l, 0 ≤ x ∧ x < (d.Next.length : Int)) (hn : (l.map (gq p)).Nodup) : l.length ≤ d.Next.length := by
  have := nodup_le d.Next.length (l.map fun x => (gq p x).toNat) (by
    refine List.pairwise_map.2 ((List.pairwise_map.1 hn).imp_of_mem fun {a b} ha hb hne he => hne ?_)
    have := gq_lt hp (hl a ha).1 (hl a ha).2
    have := gq_lt hp (hl b hb).1 (hl b hb).2
    omega) (fun x hx => by
    obtain ⟨a, ha, rfl⟩ := List.mem_map.1 hx
    have := gq_lt hp (hl a ha).1 (hl a ha).2
    omega)
  simpa using this
structure Rch (d : T_DFA) (p : List Int) (l : List Int) : Prop where
  zero : (0 : Int) ∈ l
  inr : ∀ x ∈ l, 0 ≤ x ∧ x < (d.Next.length : Int)
  walk : ∀ x ∈ l, ∃ w, walkN d 0 w = x
  nodup : (l.map (gq p)).Nodup
theorem walk_snoc (d : T_DFA) (s : Int) (w : Str) (c : UInt8) : walkN d s (w ++ [c]) = stepN d (walkN d s w) c.toNat := by simp [walkN]
include h hf in
theorem row_reach {x : Int} (h0 : 0 ≤ x) (h1 : x < (d.Next.length : Int)) (hw : ∃ w, walkN d 0 w = x) {t : Int} (ht : t ∈ d.Next.getD x.toNat []) : ∃ w, walkN d 0 w = t := by
  obtain ⟨w, hw⟩ := hw
  obtain ⟨c, hc, rfl⟩ := List.mem_iff_getElem.1 ht
  have hx : x.toNat < d.Next.length := by omega
  obtain ⟨b, hb, e⟩ := row_step h hf hx (c := c) (by rw [← (row_get h hx).1]; exact hc)
  refine ⟨w ++ [UInt8.ofNat b], ?_⟩
  have e1 : (UInt8.ofNat b).toNat = b := by simp; omega
  rw [show ((x.toNat : Nat) : Int) = x by omega] at e
  rw [walk_snoc, hw, e1, e]
  generalize d.Next.getD x.toNat [] = q at hc
  rw [List.getD_eq_getElem?_getD, List.getElem?_eq_getElem hc]; rfl
include h hf hp in
theorem reached_is (hal : AllLive d) : Is (M.dfa_reached d p) (fun l => Rch d p l ∧ ∀ w, 0 ≤ walkN d 0 w → ∃ x ∈ l, gq p x = gq p (walkN d 0 w)) := by
  have hmax := h.max
  have hpos := h.pos
  have hpl := hp.len
  have hcol := cols_256 hf
  unfold M.dfa_reached
  have z0 := gq_lt hp (x := 0) (by omega) (by omega)
  -- what is seen
  let Sn : List Bool → List Int → Prop := fun seen l => seen.length = d.Next.length ∧ ∀ v, v < d.Next.length → (seen.getD v false = true ↔ ∃ x ∈ l, gq p x = (v : Int))
  have sn_set : ∀ seen l x, Sn seen l → 0 ≤ x → x < (d.Next.length : Int) → Sn (seen.set (gq p x).toNat true) (l ++ [x]) := by
    intro seen l x ⟨h1, h2⟩ hx0 hx1
    have hg := gq_lt hp hx0 hx1
    refine ⟨by simpa using h1, fun v hv => ?_⟩
    simp only [List.getD_eq_getElem?_getD, List.getElem?_set]
    by_cases e : (gq p x).toNat = v
    · subst e
      rw [if_pos rfl, if_pos (by omega)]
      simp only [Option.getD_some, true_iff]
      exact ⟨x, by simp, by omega⟩
    · rw [if_neg e]
      have := h2 v hv
      rw [List.getD_eq_getElem?_getD] at this
      rw [this]
      constructor
      · rintro ⟨y, hy, e⟩; exact ⟨y, by simp [hy], e⟩
      · rintro ⟨y, hy, e'⟩
        rcases List.mem_append.1 hy with hy | hy
        · exact ⟨y, hy, e'⟩
        · rw [List.mem_singleton.1 hy] at e'; omega
  refine Is.bnq (mkM_nat (by omega)) (Is.bnq (gq_idx hp (by omega) (by omega)) (Is.bnq (setL_int z0.1 (by simpa using z0.2)) ?_))
  refine Is.bnd (P := fun l => Rch d p l ∧ ∀ w, 0 ≤ walkN d 0 w → ∃ x ∈ l, gq p x = gq p (walkN d 0 w)) ?_ (fun l hl => Is.pure hl)
  refine Is.while (fun st => ∃ k : Nat, st.2.2 = (k : Int) ∧ k ≤ st.1.length ∧ Rch d p st.1 ∧ Sn st.2.1 st.1 ∧ ∀ j, j < k → ∀ t ∈ d.Next.getD (st.1.getD j 0).toNat [], 0 ≤ t → ∃ y ∈ st.1, gq p y = gq p t)
    (fun st => d.Next.length - st.2.2.toNat) ⟨0, rfl, by simp, ⟨by simp, by simp; omega, by simp; exact ⟨[], rfl⟩, by simp⟩, ?_, by omega⟩ (by simp only []; omega) ?_
  · exact sn_set (List.replicate d.Next.length false) [] 0 ⟨by simp, fun v hv => by simp [List.getD_eq_getElem?_getD, hv]⟩ (by omega) (by omega)
  rintro ⟨l, seen, _⟩ ⟨k, rfl, hk, hR, hS, hd⟩
  simp only [] at hk hR hS hd ⊢
  have hle := parts_le hp hR.inr hR.nodup
  refine Is.dcd (fun hlt => ?_) fun hge => Is.stop ⟨hR, fun w => ?_⟩
  · have hkl : k < l.length := by omega
    have hxm : l.getD k 0 ∈ l := getD_mem hkl
    have hx := hR.inr _ hxm
    have hxn : (l.getD k 0).toNat < d.Next.length := by omega
    have hrow : idxL d.Next (l.getD k 0) = some (d.Next.getD (l.getD k 0).toNat []) := idxL_int hx.1 hx.2
    have hrg := row_get h hxn
    have hwk : ∀ t ∈ d.Next.getD (l.getD k 0).toNat [], ∃ w, walkN d 0 w = t := fun t ht => row_reach h hf hx.1 hx.2 (hR.walk _ hxm) ht
    have hkeep : l.getD k 0 = l.getD k 0 := rfl
    refine Is.bnd (P := fun st => k < st.1.length ∧ Rch d p st.1 ∧ Sn st.2 st.1 ∧ (∃ r, st.1 = l ++ r) ∧ ∀ t ∈ d.Next.getD (l.getD k 0).toNat [], 0 ≤ t → ∃ y ∈ st.1, gq p y = gq p t) ?_ ?_
    · refine Is.bnq (idx_D hkl) (Is.bnq hrow ?_)
      generalize d.Next.getD (l.getD k 0).toNat [] = q at hrg hwk ⊢
      refine Is.upto (fun j st => st.2.2 = (j : Int) ∧ k < st.1.length ∧ Rch d p st.1 ∧ Sn st.2.1 st.1 ∧ (∃ r, st.1 = l ++ r) ∧ ∀ t ∈ q.take j, 0 ≤ t → ∃ y ∈ st.1, gq p y = gq p t) q.length (by omega) ⟨rfl, hkl, hR, hS, ⟨[], by simp⟩, by simp⟩ ?_ ?_
      · rintro j ⟨l1, sn1, _⟩ hj ⟨rfl, a1, a2, a3, a4, a5⟩
        simp only [] at a1 a2 a3 a4 a5 ⊢
        have hq := hrg.2 _ (List.getElem_mem hj)
        have hqw := hwk _ (List.getElem_mem hj)
        have hle1 := parts_le hp a2.inr a2.nodup
        refine Is.dt (by omega) (Is.bnd (P := fun st => k < st.1.length ∧ Rch d p st.1 ∧ Sn st.2 st.1 ∧ (∃ r, st.1 = l ++ r) ∧ ∀ t ∈ q.take (j + 1), 0 ≤ t → ∃ y ∈ st.1, gq p y = gq p t) ?_ ?_)
        · refine Is.bnq (idxL_nat hj) (Is.bnd (P := fun b => b = true ↔ (0 ≤ q[j] ∧ ¬ ∃ y ∈ l1, gq p y = gq p q[j])) (Is.dcd (fun h0 => ?_) fun h0 => Is.pure ⟨fun h => (by cases h), fun h => (h0 h.1).elim⟩) ?_)
          · have hg := gq_lt hp h0 hq.2
            refine Is.bnq (gq_idx hp h0 hq.2) (Is.bnq (idxL_int (d := false) hg.1 (by rw [a3.1]; exact hg.2)) (Is.pure ?_))
            have := a3.2 (gq p q[j]).toNat (by omega)
            rw [show ((gq p q[j]).toNat : Int) = gq p q[j] by omega] at this
            rw [← this]
            cases sn1.getD (gq p q[j]).toNat false <;> simp [h0]
          · intro b hb
            cases b
            · refine Is.cf rfl (Is.pure ⟨a1, a2, a3, a4, fun t ht h0 => ?_⟩)
              rw [List.take_succ_eq_append_getElem hj, List.mem_append] at ht
              rcases ht with ht | ht
              · exact a5 t ht h0
              · rw [List.mem_singleton.1 ht] at h0 ⊢
                exact Classical.byContradiction fun hn => by have := hb.2 ⟨h0, hn⟩; cases this
            · obtain ⟨h0, hnew⟩ := hb.1 rfl
              have hg := gq_lt hp h0 hq.2
              refine Is.ct rfl (Is.bnq (gq_idx hp h0 hq.2) (Is.bnq (setL_int hg.1 (by rw [a3.1]; exact hg.2)) (Is.bnq (appM_ok (by simp; omega)) (Is.pure ⟨by simp; omega, ⟨by simp [a2.zero], ?_, ?_, ?_⟩, sn_set _ _ _ a3 h0 hq.2, ?_, ?_⟩))))
              · intro x hx
                rcases List.mem_append.1 hx with hx | hx
                · exact a2.inr x hx
                · rw [List.mem_singleton.1 hx]; exact ⟨h0, hq.2⟩
              · intro x hx
                rcases List.mem_append.1 hx with hx | hx
                · exact a2.walk x hx
                · rw [List.mem_singleton.1 hx]; exact hqw
              · rw [List.map_append, List.nodup_append]
                refine ⟨a2.nodup, by simp, fun a ha b hb => ?_⟩
                obtain ⟨y, hy, rfl⟩ := List.mem_map.1 ha
                have hb : b = gq p q[j] := by simpa using hb
                rw [hb]
                exact fun e => hnew ⟨y, hy, e⟩
              · obtain ⟨r, hr⟩ := a4
                exact ⟨r ++ [q[j]], by simp [hr]⟩
              · intro t ht h0
                rw [List.take_succ_eq_append_getElem hj, List.mem_append] at ht
                rcases ht with ht | ht
                · obtain ⟨y, hy, e⟩ := a5 t ht h0
                  exact ⟨y, by simp [hy], e⟩
                · rw [List.mem_singleton.1 ht]
                  exact ⟨q[j], by simp, rfl⟩
        · rintro ⟨l2, s2⟩ ⟨b1, b2, b3, b4, b5⟩
          exact Is.bnq (chk_succ (by omega)) (Is.next ⟨rfl, b1, b2, b3, b4, b5⟩)
      · rintro ⟨l1, sn1, _⟩ ⟨rfl, a1, a2, a3, a4, a5⟩
        simp only [List.take_length] at a1 a2 a3 a4 a5 ⊢
        exact Is.df (by omega) (Is.stop ⟨a1, a2, a3, a4, a5⟩)
    · rintro ⟨l2, s2⟩ ⟨b1, b2, b3, ⟨r, b4⟩, b5⟩
      simp only [] at b1 b2 b3 b4 b5 ⊢
      have hle2 := parts_le hp b2.inr b2.nodup
      refine Is.bnq (chk_succ (by omega)) (Is.next ⟨⟨k + 1, rfl, by simp only []; omega, b2, b3, fun j hj t ht h0 => ?_⟩, by simp only [Int.toNat_natCast]; omega⟩)
      simp only [] at ht ⊢
      rw [b4, getD_app (by omega)] at ht
      by_cases e : j = k
      · subst e; exact b5 t ht h0
      · obtain ⟨y, hy, e⟩ := hd j (by omega) t ht h0
        exact ⟨y, by rw [b4]; simp [hy], e⟩
  · -- nothing is missing
    obtain ⟨v, rfl⟩ : ∃ v : Str, w = v.reverse := ⟨w.reverse, by simp⟩
    induction v with
    | nil => intro _; exact ⟨0, hR.zero, rfl⟩
    | cons c v ih =>
      rw [List.reverse_cons]
      generalize v.reverse = w at ih
      rw [walk_snoc]
      intro h0
      have hw0 : 0 ≤ walkN d 0 w := by
        by_cases hn : walkN d 0 w < 0
        · unfold stepN at h0; rw [if_pos hn] at h0; omega
        · omega
      have hwi := walkN_in h (zero_in h) w
      obtain ⟨x, hx, e⟩ := ih hw0
      have hxi := hR.inr x hx
      have heq := (gq_eqv hp hxi.1 hxi.2 hw0 hwi.2).1 e
      have hes := heq.step c.toNat_lt
      obtain ⟨j, hj, rfl⟩ := List.mem_iff_getElem.1 hx
      have hgj : l.getD j 0 = l[j] := by rw [List.getD_eq_getElem?_getD, List.getElem?_eq_getElem hj]; rfl
      have hsx := stepN_in h (s := l[j]) ⟨by omega, hxi.2⟩ c.toNat_lt
      have hsw := stepN_in h hwi c.toNat_lt
      by_cases hlive : 0 ≤ stepN d l[j] c.toNat
      · obtain ⟨cc, hcc, _, e2⟩ := step_row h (s := l[j].toNat) (by omega) c.toNat_lt
        rw [show ((l[j].toNat : Nat) : Int) = l[j] by omega] at e2
        obtain ⟨y, hy, ey⟩ := hd j (by omega) (stepN d l[j] c.toNat) (by
          rw [hgj, e2]
          exact getD_mem (by rw [(row_get h (by omega)).1]; exact hcc)) hlive
        exact ⟨y, hy, ey.trans ((gq_eqv hp hlive hsx.2 h0 hsw.2).2 hes)⟩
      · have := hes.neg (by omega) (fun _ => hal _ _ hwi c.toNat_lt h0)
        omega
/-! ### the classes of bytes -/
def tgt (d : T_DFA) (p : List Int) (s : Int) (b : Nat) : Int := if 0 ≤ stepN d s b then gq p (stepN d s b) else stepN d s b
def keyC (d : T_DFA) (p : List Int) (states : List Int) (b : Nat) : List Int := states.map fun s => tgt d p s b
include h hp in
theorem tgt_in {s : Int} (hs : inR d s) {b : Nat} (hb : b < 256) : I64 (tgt d p s b) := by
  have hi := stepN_in h hs hb
  have hm := h.max
  unfold tgt I64
  split
  · rename_i h0
    have := gq_lt hp h0 hi.2; omega
  · have := hi.1; omega
include h hp in
theorem classes_eq {st : List Int} (hst : ∀ x ∈ st, 0 ≤ x ∧ x < (d.Next.length : Int)) (hl : st.length ≤ 500) : M.dfa_classes d st p = some ((List.range 256).map (numI (keyC d p st))) := by
  refine Is.eq ?_
  unfold M.dfa_classes
  have hk : ∀ b, b < 256 → (∀ x ∈ keyC d p st b, I64 x) ∧ (keyC d p st b).length ≤ 1000000 := by
    intro b hb
    refine ⟨fun x hx => ?_, by simp [keyC]; omega⟩
    obtain ⟨s, hs, rfl⟩ := List.mem_map.1 hx
    exact tgt_in h hp ⟨by have := hst s hs; omega, (hst s hs).2⟩ hb
  refine Is.bnq (x := List.replicate 256 0) (by rw [show (256 : Int) = ((256 : Nat) : Int) from rfl, mkM_nat (by omega)]) ?_
  have h256 : ((List.replicate 256 (0 : Int)).length : Int) = 256 := by rw [List.length_replicate]; rfl
  rw [h256]
  refine Is.bnd (P := fun r => r = (List.range 256).map (numI (keyC d p st))) ?_ (fun r hr => Is.pure hr)
  refine Is.upto (fun i s => NumMap (fun k => ∀ x ∈ k, I64 x) wideS s.2.1 (D (keyC d p st) i) ∧ s.1 = tab (numI (keyC d p st)) 256 i ∧ s.2.2 = (i : Int)) 256 (by omega) ⟨NumMap.nil, by rw [tab_zero], rfl⟩ ?_ ?_
  · rintro b ⟨_, m, _⟩ hb ⟨hm, rfl, rfl⟩
    simp only [] at hm ⊢
    obtain ⟨hk1, hk2⟩ := hk b hb
    refine Is.dt (by omega) (Is.bnd (P := fun r => r.1 = tab (numI (keyC d p st)) 256 (b + 1) ∧ NumMap (fun k => ∀ x ∈ k, I64 x) wideS r.2 (D (keyC d p st) (b + 1))) ?_ ?_)
    · refine Is.bnd (P := fun r => r = keyC d p st b) (Is.upto (fun j s => s = ((st.take j).map (fun s => tgt d p s b), (j : Int))) st.length (by omega) (by simp) ?_ ?_) ?_
      · rintro j _ hj rfl
        simp only []
        have hs := hst _ (List.getElem_mem hj)
        have hi := stepN_in h (s := st[j]) ⟨by omega, hs.2⟩ hb
        refine Is.dt (by omega) (Is.bnq (idxL_nat hj) (Is.bnq (x := stepN d st[j] b) (by rw [wrap_u8n hb]; exact step_eq h ⟨by omega, hs.2⟩ hb) (Is.bnd (P := fun t => t = tgt d p st[j] b) (Is.dcd (fun h0 => ?_) fun h0 => Is.pure ?_) ?_)))
        · exact Is.bnq (gq_idx hp h0 hi.2) (Is.pure (by unfold tgt; rw [if_pos h0]))
        · unfold tgt; rw [if_neg h0]
        · rintro _ rfl
          refine Is.bnq (appM_ok (by simp; omega)) (Is.bnq (chk_succ (by omega)) (Is.next ?_))
          rw [map_take_succ _ hj]
      · rintro _ rfl
        exact Is.df (by simp) (Is.stop (by rw [List.take_length]; rfl))
      · rintro _ rfl
        refine Is.bnq (wide_eq hk2) (Is.bnd (P := fun r => NumMap (fun k => ∀ x ∈ k, I64 x) wideS r.1 (D (keyC d p st) (b + 1)) ∧ r.2 = numI (keyC d p st) b) ?_ ?_)
        · rcases num_step hm (fun k k' a b => wideS_inj a b) hk1 with ⟨h1, h2, h3, h4⟩ | ⟨h1, h2, h3, h4⟩
          · rw [h1, h2]
            exact Is.cf rfl (Is.pure ⟨h3, rfl⟩)
          · rw [h1, hm.1]
            exact Is.ct rfl (Is.bnq (wide_eq hk2) (Is.pure ⟨h3, h2⟩))
        · rintro ⟨m2, _⟩ ⟨h1, rfl⟩
          exact Is.bnq (setL_tab hb) (Is.pure ⟨rfl, h1⟩)
    · rintro ⟨_, m2⟩ ⟨rfl, h1⟩
      exact Is.bnq (chk_succ (by omega)) (Is.next ⟨h1, rfl, rfl⟩)
  · rintro ⟨_, m, _⟩ ⟨hm, rfl, rfl⟩
    exact Is.df (by omega) (Is.stop (by rw [tab_all]))
end
/-- One byte of each class, in the order of the classes. -/
structure Reps {K : Type} [DecidableEq K] (σ : Nat → K) (l : List Int) : Prop where
  len : l.length = (D σ 256).length
  rep : ∀ c, c < l.length → ∃ b : Nat, b < 256 ∧ l.getD c 0 = (b : Int) ∧ num σ b = c
theorem sample_is {K : Type} [DecidableEq K] (σ : Nat → K) : Is (M.dfa_sample ((List.range 256).map (numI σ))) (Reps σ) := by
  unfold M.dfa_sample
  have h256 : (((List.range 256).map (numI σ)).length : Int) = 256 := by rw [List.length_map, List.length_range]; rfl
  rw [h256]
  refine Is.bnd (P := Reps σ) (Is.upto (fun i st => st.2 = (i : Int) ∧ st.1.length = (D σ i).length ∧ ∀ c, c < st.1.length → ∃ b : Nat, b < 256 ∧ st.1.getD c 0 = (b : Int) ∧ num σ b = c) 256 (by omega) ⟨rfl, rfl, by simp⟩ ?_ ?_) (fun l hl => Is.pure hl)
  · rintro i ⟨l, _⟩ hi ⟨rfl, h1, h2⟩
    simp only [] at h1 h2 ⊢
    have hD := D_len σ i
    have hget : idxL ((List.range 256).map (numI σ)) (i : Int) = some (numI σ i) := by
      rw [idxL_nat (by rw [List.length_map, List.length_range]; exact hi)]
      rw [List.getElem_map, List.getElem_range]
    refine Is.dt (by omega) (Is.bnd (P := fun r => r.length = (D σ (i + 1)).length ∧ ∀ c, c < r.length → ∃ b : Nat, b < 256 ∧ r.getD c 0 = (b : Int) ∧ num σ b = c) ?_ ?_)
    · refine Is.bnq hget (Is.cnd (fun e => ?_) fun e => Is.pure ?_)
      · have e := of_beq_t e
        have hnew : σ i ∉ D σ i := fun hm => by have := num_old hm; unfold numI at e; omega
        rw [wrap_u8n hi]
        refine Is.bnq (appM_ok (by simp; omega)) (Is.pure ⟨by rw [D_new hnew]; simp [h1], fun c hc => ?_⟩)
        by_cases hcl : c < l.length
        · rw [getD_app hcl]; exact h2 c hcl
        · have : c = l.length := by simp at hc; omega
          subst this
          exact ⟨i, hi, by simp [List.getD_eq_getElem?_getD], by unfold numI at e; omega⟩
      · have e := of_beq_f e
        have hold : σ i ∈ D σ i := Classical.byContradiction fun hm => by have := num_new hm; unfold numI at e; omega
        rw [D_old hold]; exact ⟨h1, h2⟩
    · rintro r ⟨h1, h2⟩
      exact Is.bnq (chk_succ (by omega)) (Is.next ⟨rfl, h1, h2⟩)
  · rintro ⟨l, _⟩ ⟨rfl, h1, h2⟩
    exact Is.df (by omega) (Is.stop ⟨h1, h2⟩)
end Go.Proofs.Ytogpainomdfpnaa
