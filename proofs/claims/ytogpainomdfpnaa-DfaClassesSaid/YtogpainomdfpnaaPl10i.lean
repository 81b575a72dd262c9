/- Plain facts on layer 10: what Minimize builds. -/
import Derived.Test.YtogpainomdfpnaaPl10h
set_option linter.unusedVariables false
namespace Go.Proofs.Ytogpainomdfpnaa
open Go.Lx

/-! ### numbers that begin where the last ended -/
def cntN (k : Nat) (l : List Int) : Nat := l.foldl (fun k v => if v = (k : Int) then k + 1 else k) k
theorem cntN_snoc (k : Nat) (l : List Int) (v : Int) : cntN k (l ++ [v]) = if v = (cntN k l : Int) then cntN k l + 1 else cntN k l := by unfold cntN; rw [List.foldl_append]; rfl
def Can (l : List Int) : Prop := ∀ i, i < l.length → l.getD i 0 ≤ (cntN 1 (l.take i) : Int)
theorem Can.snoc {l : List Int} {v : Int} (h : Can l) (hv : v ≤ (cntN 1 l : Int)) : Can (l ++ [v]) := by
  intro i hi
  by_cases hl : i < l.length
  · rw [getD_app hl, List.take_append_of_le_length (by omega)]
    exact h i hl
  · have : i = l.length := by simp at hi; omega
    subst this
    rw [List.take_left]
    simpa [List.getD_eq_getElem?_getD] using hv
theorem getD_last {α : Type} (l : List α) (v x : α) : (l ++ [v]).getD l.length x = v := by simp [List.getD_eq_getElem?_getD]
/-- The least automaton, in the numbering of the document. -/
structure Canon (m : T_DFA) : Prop where
  ok : Ok m
  cls : m.Class = (List.range 256).map (numI (clsF m))
  cols : cols m = (D (clsF m) 256).length
  sep : ∀ b b', b < 256 → b' < 256 → (∀ s : Nat, s < m.Next.length → stepN m (s : Int) b = stepN m (s : Int) b') → clsF m b = clsF m b'
  live : AllLive m
  reach : ∀ s : Nat, s < m.Next.length → ∃ w, walkN m 0 w = (s : Int)
  ineq : ∀ s t : Nat, s < m.Next.length → t < m.Next.length → Eqv m (s : Int) (t : Int) → s = t
  can : Can m.Next.flatten
  cnt : cntN 1 m.Next.flatten = m.Next.length
  start : ∀ j, j < m.Next.length → j < cntN 1 (m.Next.take j).flatten
section
variable (d : T_DFA) (p : List Int) (bytes : List Int)
/-- v stands for the successor of x by byte b. -/
def EntM (order : List Int) (x : Int) (v : Int) (b : Nat) : Prop := (stepN d x b < 0 ∧ v = -1) ∨ (0 ≤ stepN d x b ∧ ∃ k : Nat, v = (k : Int) ∧ k < order.length ∧ gq p (order.getD k 0) = gq p (stepN d x b))
def RowOk (order : List Int) (x : Int) (row : List Int) : Prop := row.length = bytes.length ∧ ∀ c, c < bytes.length → EntM d p order x (row.getD c 0) (bytes.getD c 0).toNat
structure MC (order : List Int) (rows : List (List Int)) (accs : List Int) (i : Nat) (done : List Int) : Prop where
  z : order.getD 0 0 = 0 ∧ 0 < order.length
  inr : ∀ x ∈ order, 0 ≤ x ∧ x < (d.Next.length : Int)
  walk : ∀ x ∈ order, ∃ w, walkN d 0 w = x
  nodup : (order.map (gq p)).Nodup
  rlen : rows.length = i
  accs : accs = (order.take i).map (fun x => d.Accept.getD x.toNat 0)
  ile : i ≤ order.length
  ent : ∀ j, j < i → RowOk d p bytes order (order.getD j 0) (rows.getD j [])
  dent : ∀ c, c < done.length → EntM d p order (order.getD i 0) (done.getD c 0) (bytes.getD c 0).toNat
  can : Can (rows.flatten ++ done)
  cnt : cntN 1 (rows.flatten ++ done) = order.length
  start : ∀ j, j < i → j < cntN 1 (rows.take j).flatten
  beg : done ≠ [] → i < cntN 1 rows.flatten
end
section
variable {d : T_DFA} {p bytes order accs done : List Int} {rows : List (List Int)} {i : Nat}
theorem EntM.mono {x v : Int} {b : Nat} (h : EntM d p order x v b) (r : List Int) : EntM d p (order ++ r) x v b := by
  rcases h with h | ⟨h1, k, h2, h3, h4⟩
  · exact .inl h
  · exact .inr ⟨h1, k, h2, by simp; omega, by rw [getD_app h3]; exact h4⟩
theorem MC.start0 (hp : 1 ≤ d.Next.length) : MC d p bytes [0] [] [] 0 [] where
  z := ⟨rfl, by simp⟩
  inr x hx := by simp at hx; subst hx; omega
  walk x hx := by simp at hx; subst hx; exact ⟨[], rfl⟩
  nodup := by simp
  rlen := rfl
  accs := rfl
  ile := by simp
  ent j hj := by omega
  dent c hc := by simp at hc
  can i hi := by simp at hi
  cnt := rfl
  start j hj := by omega
  beg h := (h rfl).elim
theorem MC.beg' (h : MC d p bytes order rows accs i done) (hi : i < order.length) : i < cntN 1 rows.flatten := by
  cases done with
  | nil => have := h.cnt; simp at this; omega
  | cons a l => exact h.beg (by simp)
theorem MC.old (h : MC d p bytes order rows accs i done) (hi : i < order.length) {v : Int} (he : EntM d p order (order.getD i 0) v (bytes.getD done.length 0).toNat) : MC d p bytes order rows accs i (done ++ [v]) := by
  have hv : v < (order.length : Int) := by
    have := h.z.2
    rcases he with ⟨_, rfl⟩ | ⟨_, k, rfl, hk, _⟩ <;> omega
  refine ⟨h.z, h.inr, h.walk, h.nodup, h.rlen, h.accs, h.ile, h.ent, fun c hc => ?_, ?_, ?_, h.start, fun _ => h.beg' hi⟩
  · by_cases hcl : c < done.length
    · rw [getD_app hcl]; exact h.dent c hcl
    · have : c = done.length := by simp at hc; omega
      subst this
      rw [getD_last]; exact he
  · rw [← List.append_assoc]
    exact h.can.snoc (by rw [h.cnt]; omega)
  · rw [← List.append_assoc, cntN_snoc, h.cnt, if_neg (by omega)]
theorem MC.new (h : MC d p bytes order rows accs i done) (hi : i < order.length) {t : Int} (ht : t = stepN d (order.getD i 0) (bytes.getD done.length 0).toNat) (h0 : 0 ≤ t) (h1 : t < (d.Next.length : Int)) (hw : ∃ w, walkN d 0 w = t) (hn : gq p t ∉ order.map (gq p)) :
    MC d p bytes (order ++ [t]) rows accs i (done ++ [(order.length : Int)]) := by
  refine ⟨⟨by rw [getD_app h.z.2]; exact h.z.1, by simp⟩, ?_, ?_, ?_, h.rlen, ?_, by simp; omega, fun j hj => ?_, fun c hc => ?_, ?_, ?_, h.start, fun _ => h.beg' hi⟩
  · intro x hx
    rcases List.mem_append.1 hx with hx | hx
    · exact h.inr x hx
    · rw [List.mem_singleton.1 hx]; exact ⟨h0, h1⟩
  · intro x hx
    rcases List.mem_append.1 hx with hx | hx
    · exact h.walk x hx
    · rw [List.mem_singleton.1 hx]; exact hw
  · rw [List.map_append, List.nodup_append]
    refine ⟨h.nodup, by simp, fun a ha b hb => ?_⟩
    have hb : b = gq p t := by simpa using hb
    rw [hb]; rintro rfl; exact hn ha
  · rw [List.take_append_of_le_length (by omega)]; exact h.accs
  · rw [getD_app (by omega)]
    have := h.ent j hj
    exact ⟨this.1, fun c hc => (this.2 c hc).mono [t]⟩
  · rw [getD_app hi]
    by_cases hcl : c < done.length
    · rw [getD_app hcl]; exact (h.dent c hcl).mono [t]
    · have : c = done.length := by simp at hc; omega
      subst this
      rw [getD_last]
      exact .inr ⟨by rw [← ht]; exact h0, order.length, rfl, by simp, by rw [getD_last, ht]⟩
  · rw [← List.append_assoc]
    exact h.can.snoc (by rw [h.cnt]; omega)
  · rw [← List.append_assoc, cntN_snoc, h.cnt, if_pos rfl]; simp
theorem MC.turn (h : MC d p bytes order rows accs i done) (hi : i < order.length) (hd : done.length = bytes.length) : MC d p bytes order (rows ++ [done]) (accs ++ [d.Accept.getD (order.getD i 0).toNat 0]) (i + 1) [] := by
  refine ⟨h.z, h.inr, h.walk, h.nodup, by simp [h.rlen], ?_, by omega, fun j hj => ?_, fun c hc => by simp at hc, ?_, ?_, fun j hj => ?_, fun h => (h rfl).elim⟩
  · rw [List.take_succ_eq_append_getElem hi, List.map_append, h.accs, List.getD_eq_getElem?_getD (l := order), List.getElem?_eq_getElem hi]; rfl
  · by_cases e : j < i
    · rw [getD_app (by rw [h.rlen]; exact e)]; exact h.ent j e
    · have : j = rows.length := by rw [h.rlen]; omega
      subst this
      rw [getD_last, h.rlen]
      exact ⟨hd, fun c hc => h.dent c (by omega)⟩
  · simpa using h.can
  · simpa using h.cnt
  · by_cases e : j < i
    · rw [List.take_append_of_le_length (by rw [h.rlen]; omega)]; exact h.start j e
    · have : j = rows.length := by rw [h.rlen]; omega
      subst this
      rw [List.take_left]
      rw [h.rlen]; exact h.beg' hi
end
/-! ### what is built -/
section
variable {d : T_DFA} {p l bytes : List Int} (h : Ok d) (hf : Full d) (hal : AllLive d) (hp : PartOk d p) (hR : Rch d p l) (hRc : ∀ w, 0 ≤ walkN d 0 w → ∃ x ∈ l, gq p x = gq p (walkN d 0 w)) (hB : Reps (keyC d p l) bytes)
include h hal hp in
theorem tgt_eqv {x y : Int} (hx : 0 ≤ x ∧ x < (d.Next.length : Int)) (hy : 0 ≤ y ∧ y < (d.Next.length : Int)) (he : gq p x = gq p y) {b : Nat} (hb : b < 256) : tgt d p x b = tgt d p y b := by
  have heq := ((gq_eqv hp hx.1 hx.2 hy.1 hy.2).1 he).step hb
  have ix := stepN_in h (s := x) ⟨by omega, hx.2⟩ hb
  have iy := stepN_in h (s := y) ⟨by omega, hy.2⟩ hb
  unfold tgt
  by_cases n1 : 0 ≤ stepN d x b
  · have n2 : 0 ≤ stepN d y b := by
      by_cases n2 : stepN d y b < 0
      · have := heq.symm.neg n2 (fun h0 => hal x b ⟨by omega, hx.2⟩ hb h0); omega
      · omega
    rw [if_pos n1, if_pos n2]
    exact (gq_eqv hp n1 ix.2 n2 iy.2).2 heq
  · have n2 : ¬ 0 ≤ stepN d y b := fun n2 => by
      have := heq.neg (by omega) (fun h0 => hal y b ⟨by omega, hy.2⟩ hb h0); omega
    rw [if_neg n1, if_neg n2]
    have := ix.1; have := iy.1; omega
include h hp in
theorem EntM.iff {order : List Int} {x v : Int} (hx : 0 ≤ x ∧ x < (d.Next.length : Int)) {b : Nat} (hb : b < 256) : EntM d p order x v b ↔ (tgt d p x b = -1 ∧ v = -1) ∨ (0 ≤ tgt d p x b ∧ ∃ k : Nat, v = (k : Int) ∧ k < order.length ∧ gq p (order.getD k 0) = tgt d p x b) := by
  have ix := stepN_in h (s := x) ⟨by omega, hx.2⟩ hb
  unfold EntM tgt
  by_cases n1 : 0 ≤ stepN d x b
  · rw [if_pos n1]
    have := gq_lt hp n1 ix.2
    constructor
    · rintro (h | h)
      · omega
      · exact .inr ⟨by omega, h.2⟩
    · rintro (h | h)
      · omega
      · exact .inr ⟨n1, h.2⟩
  · rw [if_neg n1]
    have := ix.1
    constructor
    · rintro (h | h)
      · exact .inl ⟨by omega, h.2⟩
      · omega
    · rintro (h | h)
      · exact .inl ⟨by omega, h.2⟩
      · omega
theorem idx_inj {l : List Int} {f : Int → Int} (hn : (l.map f).Nodup) {i j : Nat} (hi : i < l.length) (hj : j < l.length) (h : f (l.getD i 0) = f (l.getD j 0)) : i = j := by
  have e1 : l.getD i 0 = l[i] := by rw [List.getD_eq_getElem?_getD, List.getElem?_eq_getElem hi]; rfl
  have e2 : l.getD j 0 = l[j] := by rw [List.getD_eq_getElem?_getD, List.getElem?_eq_getElem hj]; rfl
  rw [e1, e2] at h
  have hpw := List.pairwise_iff_getElem.1 hn
  rcases Nat.lt_trichotomy i j with hl | hl | hl
  · have := hpw i j (by simpa using hi) (by simpa using hj) hl
    simp only [List.getElem_map] at this; exact (this h).elim
  · exact hl
  · have := hpw j i (by simpa using hj) (by simpa using hi) hl
    simp only [List.getElem_map] at this; exact (this h.symm).elim
variable {order accs : List Int} {rows : List (List Int)} (hM : MC d p bytes order rows accs order.length [])
/-- The automaton that is built. -/
def outD (d : T_DFA) (p l : List Int) (rows : List (List Int)) (accs : List Int) : T_DFA := ⟨(List.range 256).map (numI (keyC d p l)), rows, accs⟩
include h hal hp hR hRc in
theorem key_reach {x : Int} (hx : 0 ≤ x ∧ x < (d.Next.length : Int)) (hw : ∃ w, walkN d 0 w = x) {b b' : Nat} (hb : b < 256) (hb' : b' < 256) (he : keyC d p l b = keyC d p l b') : tgt d p x b = tgt d p x b' := by
  obtain ⟨w, hw⟩ := hw
  obtain ⟨y, hy, e⟩ := hRc w (by rw [hw]; exact hx.1)
  rw [hw] at e
  have hyi := hR.inr y hy
  rw [← tgt_eqv h hal hp hyi hx e hb, ← tgt_eqv h hal hp hyi hx e hb']
  unfold keyC at he
  exact List.map_inj_left.1 he y hy
include hM in
theorem ord_in {i : Nat} (hi : i < order.length) : 0 ≤ order.getD i 0 ∧ order.getD i 0 < (d.Next.length : Int) := hM.inr _ (getD_mem hi)
theorem outD_cls {b : Nat} (hb : b < 256) : clsF (outD d p l rows accs) b = numI (keyC d p l) b := by simp [clsF, outD, List.getD_eq_getElem?_getD, hb]
include h hal hp hR hRc hB hM in
theorem out_ent {i : Nat} (hi : i < order.length) {b : Nat} (hb : b < 256) : EntM d p order (order.getD i 0) (stepN (outD d p l rows accs) (i : Int) b) b := by
  have hx := ord_in hM hi
  have hw := hM.walk _ (getD_mem (d := 0) hi)
  have hr := hM.ent i hi
  have hnum := num_lt (σ := keyC d p l) hb
  rw [← hB.len] at hnum
  obtain ⟨b', hb', e1, e2⟩ := hB.rep _ hnum
  have he := hr.2 _ hnum
  rw [e1, Int.toNat_natCast] at he
  rw [EntM.iff h hp hx hb'] at he
  rw [EntM.iff h hp hx hb, ← key_reach h hal hp hR hRc hx hw hb' hb (num_inj.1 e2)]
  have e3 : stepN (outD d p l rows accs) (i : Int) b = (rows.getD i []).getD (num (keyC d p l) b) 0 := step_col (d := outD d p l rows accs) (outD_cls hb)
  rw [e3]; exact he
include h hal hp hR hRc hB hM in
theorem out_walk (w : Str) : (walkN d 0 w < 0 ∧ walkN (outD d p l rows accs) 0 w = -1) ∨ (0 ≤ walkN d 0 w ∧ ∃ k : Nat, k < order.length ∧ walkN (outD d p l rows accs) 0 w = (k : Int) ∧ gq p (order.getD k 0) = gq p (walkN d 0 w)) := by
  obtain ⟨v, rfl⟩ : ∃ v : Str, w = v.reverse := ⟨w.reverse, by simp⟩
  induction v with
  | nil => exact .inr ⟨Int.le_refl _, 0, hM.z.2, rfl, by rw [hM.z.1]; rfl⟩
  | cons c v ih =>
    rw [List.reverse_cons]
    generalize v.reverse = w at ih
    rw [walk_snoc, walk_snoc]
    have hwi := walkN_in h (zero_in h) w
    have hi := stepN_in h hwi c.toNat_lt
    rcases ih with ⟨h1, h2⟩ | ⟨h1, k, hk, h2, h3⟩
    · refine .inl ⟨?_, ?_⟩
      · unfold stepN; rw [if_pos h1]; omega
      · rw [h2]; rfl
    · rw [h2]
      have hent := out_ent h hal hp hR hRc hB hM hk c.toNat_lt
      have hx := ord_in hM hk
      rw [EntM.iff h hp hx c.toNat_lt, tgt_eqv h hal hp hx ⟨h1, hwi.2⟩ h3 c.toNat_lt] at hent
      unfold tgt at hent
      by_cases n1 : 0 ≤ stepN d (walkN d 0 w) c.toNat
      · simp only [if_pos n1] at hent
        have := gq_lt hp n1 hi.2
        rcases hent with ⟨h4, _⟩ | ⟨_, k', h4, h5, h6⟩
        · omega
        · exact .inr ⟨n1, k', h5, h4, h6⟩
      · simp only [if_neg n1] at hent
        rcases hent with ⟨_, h4⟩ | ⟨h4, _⟩
        · exact .inl ⟨by omega, h4⟩
        · omega
include h hal hp hR hRc hB hM in
theorem out_res (w : Str) : ∀ i, i < order.length → res (outD d p l rows accs) (i : Int) w = res d (order.getD i 0) w := by
  induction w with
  | nil =>
    intro i hi
    have hx := ord_in hM hi
    rw [res_nil, res_nil]
    unfold accN
    rw [if_neg (by omega), if_neg (by omega)]
    have e : (outD d p l rows accs).Accept = order.map (fun x => d.Accept.getD x.toNat 0) := by
      show accs = _
      have := hM.accs
      rwa [List.take_length] at this
    rw [e, Int.toNat_natCast, List.getD_eq_getElem?_getD, List.getElem?_map, List.getElem?_eq_getElem hi, List.getD_eq_getElem?_getD (l := order), List.getElem?_eq_getElem hi]
    rfl
  | cons c w ih =>
    intro i hi
    have hx := ord_in hM hi
    rw [res_cons, res_cons]
    have hin := stepN_in h (s := order.getD i 0) ⟨by omega, hx.2⟩ c.toNat_lt
    rcases out_ent h hal hp hR hRc hB hM hi c.toNat_lt with ⟨h1, h2⟩ | ⟨h1, k, h2, h3, h4⟩
    · rw [h2, res_neg h1, res_neg (by omega)]
    · rw [h2, ih k h3]
      have hk := ord_in hM h3
      exact (gq_eqv hp hk.1 hk.2 h1 hin.2).1 h4 w
include h hal hp hR hRc hB hM in
theorem out_canon : Canon (outD d p l rows accs) := by
  have hlen : rows.length = order.length := hM.rlen
  have hle := parts_le hp hM.inr hM.nodup
  have hK : 1 ≤ bytes.length := by
    rw [hB.len]
    have := num_lt (σ := keyC d p l) (i := 0) (j := 256) (by omega)
    omega
  have hz := hM.z.2
  have hcols : cols (outD d p l rows accs) = bytes.length := (hM.ent 0 hz).1
  have hnext : (outD d p l rows accs).Next = rows := rfl
  have hacc : (outD d p l rows accs).Accept = order.map (fun x => d.Accept.getD x.toNat 0) := by
    show accs = _
    have := hM.accs
    rwa [List.take_length] at this
  have hok : Ok (outD d p l rows accs) := by
    refine ⟨by simp [outD], by rw [hnext]; omega, by rw [hnext]; have := h.max; omega, by rw [hacc, hnext]; simp [hlen], by rw [hcols]; exact hK, fun c hc => ?_, fun r hr => ?_, fun a ha => ?_⟩
    · simp only [outD, List.mem_map, List.mem_range] at hc
      obtain ⟨b, hb, rfl⟩ := hc
      rw [hcols, hB.len]
      have := num_lt (σ := keyC d p l) hb
      unfold numI; omega
    · rw [hnext] at hr
      obtain ⟨j, hj, rfl⟩ := List.mem_iff_getElem.1 hr
      have hrow := hM.ent j (by omega)
      have e : rows.getD j [] = rows[j] := by rw [List.getD_eq_getElem?_getD, List.getElem?_eq_getElem hj]; rfl
      rw [e] at hrow
      refine ⟨by rw [hcols]; exact hrow.1, fun t ht => ?_⟩
      obtain ⟨c, hc, rfl⟩ := List.mem_iff_getElem.1 ht
      have := hrow.2 c (by rw [← hrow.1]; exact hc)
      have e : rows[j].getD c 0 = rows[j][c] := by rw [List.getD_eq_getElem?_getD, List.getElem?_eq_getElem hc]; rfl
      rw [e] at this
      rw [hnext]
      rcases this with ⟨_, h⟩ | ⟨_, k, h, hk, _⟩ <;> omega
    · rw [hacc] at ha
      obtain ⟨x, hx, rfl⟩ := List.mem_map.1 ha
      have := hM.inr x hx
      exact h.accs _ (getD_mem (by rw [h.acc]; omega))
  have hu := num_uniq (σ := clsF (outD d p l rows accs)) (τ := keyC d p l) (n := 256) (fun i j hi hj => by
    rw [outD_cls hi, outD_cls hj]
    unfold numI
    rw [Int.ofNat_inj, num_inj]) 256 (Nat.le_refl _)
  refine ⟨hok, ?_, by rw [hcols, hB.len, hu.1], fun b b' hb hb' hs => ?_, fun s b hs hb h0 => ?_, fun s hs => ?_, fun s t hs ht he => ?_, ?_, ?_, fun j hj => ?_⟩
  · show (List.range 256).map (numI (keyC d p l)) = _
    refine List.map_congr_left fun b hb => ?_
    unfold numI
    rw [hu.2 b (List.mem_range.1 hb)]
  · -- classes are apart
    rw [outD_cls hb, outD_cls hb']
    have : keyC d p l b = keyC d p l b' := by
      unfold keyC
      refine List.map_congr_left fun x hx => ?_
      have hxi := hR.inr x hx
      obtain ⟨w, hw⟩ := hR.walk x hx
      rcases out_walk h hal hp hR hRc hB hM w with ⟨h1, _⟩ | ⟨h1, k, hk, h2, h3⟩
      · omega
      · rw [hw] at h3
        have hki := ord_in hM hk
        rw [← tgt_eqv h hal hp hki hxi h3 hb, ← tgt_eqv h hal hp hki hxi h3 hb']
        have e1 := out_ent h hal hp hR hRc hB hM hk hb
        have e2 := out_ent h hal hp hR hRc hB hM hk hb'
        rw [hs k (by rw [hnext]; omega)] at e1
        rw [EntM.iff h hp hki hb] at e1
        rw [EntM.iff h hp hki hb'] at e2
        rcases e1 with ⟨a1, a2⟩ | ⟨a1, k1, a2, a3, a4⟩ <;> rcases e2 with ⟨c1, c2⟩ | ⟨c1, k2, c2, c3, c4⟩
        · omega
        · omega
        · omega
        · have : k1 = k2 := by omega
          subst this
          omega
    unfold numI
    rw [num_inj.2 this]
  · -- targets live
    by_cases hn : s < 0
    · unfold stepN at h0; rw [if_pos hn] at h0; omega
    · obtain ⟨i, rfl⟩ := Int.eq_ofNat_of_zero_le (show 0 ≤ s by omega)
      have hi : i < order.length := by have := hs.2; rw [hnext] at this; omega
      have hx := ord_in hM hi
      rcases out_ent h hal hp hR hRc hB hM hi hb with ⟨h1, h2⟩ | ⟨h1, k, h2, h3, h4⟩
      · rw [h2] at h0; omega
      · have hin := stepN_in h (s := order.getD i 0) ⟨by omega, hx.2⟩ hb
        obtain ⟨w, hw⟩ := hal (order.getD i 0) b ⟨by omega, hx.2⟩ hb h1
        have hk := ord_in hM h3
        refine ⟨w, ?_⟩
        rw [h2, out_res h hal hp hR hRc hB hM w k h3, (gq_eqv hp hk.1 hk.2 h1 hin.2).1 h4 w]
        exact hw
  · -- all states are reached
    rw [hnext, hlen] at hs
    obtain ⟨w, hw⟩ := hM.walk _ (getD_mem (d := 0) hs)
    have hx := ord_in hM hs
    rcases out_walk h hal hp hR hRc hB hM w with ⟨h1, _⟩ | ⟨h1, k, hk, h2, h3⟩
    · omega
    · rw [hw] at h3
      have := idx_inj hM.nodup hk hs h3
      subst this
      exact ⟨w, h2⟩
  · rw [hnext, hlen] at hs ht
    have hxs := ord_in hM hs
    have hxt := ord_in hM ht
    refine idx_inj hM.nodup hs ht ((gq_eqv hp hxs.1 hxs.2 hxt.1 hxt.2).2 fun w => ?_)
    rw [← out_res h hal hp hR hRc hB hM w s hs, ← out_res h hal hp hR hRc hB hM w t ht]
    exact he w
  · have := hM.can; rwa [List.append_nil] at this
  · have := hM.cnt; rw [List.append_nil] at this; rw [hnext, this, hlen]
  · exact hM.start j (by rw [hnext] at hj; omega)
end
end Go.Proofs.Ytogpainomdfpnaa
