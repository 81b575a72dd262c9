/- Plain facts on layer 10: numbers as strings, the partition of the states. -/
import Derived.Test.YtogpainomdfpnaaPl10f
set_option linter.unusedVariables false
namespace Go.Proofs.Ytogpainomdfpnaa
open Go.Lx

theorem wrap_u8m (n : Int) : IntKind.u8.wrap n = n % 256 := by simp [IntKind.wrap, IntKind.bits, IntKind.signed]
def byt (n : Int) (j : Nat) : Int := IntKind.u8.wrap (n / 2 ^ (8 * j))
def wide8 (n : Int) : List Int := (List.range 8).map (byt n)
def wideS (l : List Int) : Str := toStr (l.flatMap wide8)
theorem wide_eq {l : List Int} (hl : l.length ≤ 1000000) : M.dfa_wide l = some (wideS l) := by
  refine Is.eq ?_
  unfold M.dfa_wide
  have hfl : ∀ i, ((l.take i).flatMap wide8).length ≤ 8 * l.length := by
    intro i
    have : ∀ q : List Int, (q.flatMap wide8).length = 8 * q.length := by
      intro q
      induction q with
      | nil => rfl
      | cons a q ih => rw [List.flatMap_cons, List.length_append, ih]; simp [wide8]; omega
    rw [this]; simp; omega
  refine Is.bnd (P := fun r => r = l.flatMap wide8) (Is.upto (fun i st => st = ((l.take i).flatMap wide8, (i : Int))) l.length (by omega) (by simp) ?_ ?_) ?_
  · rintro i _ hi rfl
    simp only []
    have hf := hfl i
    refine Is.dt (by omega) (Is.bnd (P := fun r => r = (l.take (i + 1)).flatMap wide8) ?_ ?_)
    · refine Is.bnq (idxL_nat hi) (Is.upto (fun j st => st = ((l.take i).flatMap wide8 ++ (List.range j).map (byt l[i]), (j : Int))) 8 (by omega) (by simp) ?_ ?_)
      · rintro j _ hj rfl
        simp only []
        refine Is.dt (by omega) (Is.bnq (chk_i64 (by omega) (by omega)) (Is.bnq (x := l[i] / 2 ^ (8 * j)) ?_ (Is.bnq (appM_ok (by rw [List.length_append]; simp only [List.length_map, List.length_range, List.length_singleton]; omega)) (Is.bnq (chk_succ (by omega)) (Is.next ?_)))))
        · unfold shrM
          rw [if_pos (by omega)]
          have : min (8 * (j : Int)).toNat IntKind.i64.bits = 8 * j := by show min _ 64 = _; omega
          rw [this]
        · rw [List.range_succ, List.map_append, List.append_assoc]; rfl
      · rintro _ rfl
        refine Is.df (by simp) (Is.stop ?_)
        rw [List.take_succ_eq_append_getElem hi, List.flatMap_append]; simp [wide8]
    · rintro _ rfl
      exact Is.bnq (chk_succ (by omega)) (Is.next rfl)
  · rintro _ rfl
    exact Is.df (by simp) (Is.stop (by simp))
  · rintro _ rfl
    exact Is.pure rfl
/-- Numbers of 64 bits. -/
def I64 (n : Int) : Prop := -9223372036854775808 ≤ n ∧ n ≤ 9223372036854775807
theorem wide8_inj {n m : Int} (hn : I64 n) (hm : I64 m) (h : ∀ j, j < 8 → byt n j = byt m j) : n = m := by
  have key : ∀ j, j ≤ 7 → n / 2 ^ (8 * (7 - j)) = m / 2 ^ (8 * (7 - j)) := by
    intro j
    induction j with
    | zero =>
      intro _
      have := h 7 (by omega)
      unfold byt at this
      rw [wrap_u8m, wrap_u8m] at this
      simp only [I64] at hn hm
      simp only [Nat.sub_zero, Nat.reduceMul, Int.reducePow] at this ⊢
      omega
    | succ j ih =>
      intro hj
      have h1 := ih (by omega)
      have h2 := h (7 - (j + 1)) (by omega)
      unfold byt at h2
      rw [wrap_u8m, wrap_u8m] at h2
      have e : 2 ^ (8 * (7 - j)) = (2 : Int) ^ (8 * (7 - (j + 1))) * 256 := by
        rw [show 8 * (7 - j) = 8 * (7 - (j + 1)) + 8 by omega, Int.pow_add]; rfl
      rw [e, ← Int.ediv_ediv_of_nonneg (Int.pow_nonneg (by omega)), ← Int.ediv_ediv_of_nonneg (Int.pow_nonneg (by omega))] at h1
      omega
  have := key 7 (by omega)
  simpa using this
theorem byt_lt (n : Int) (j : Nat) : 0 ≤ byt n j ∧ byt n j < 256 := by unfold byt; rw [wrap_u8m]; omega
theorem ofNat_inj {a b : Int} (ha : 0 ≤ a ∧ a < 256) (hb : 0 ≤ b ∧ b < 256) (h : UInt8.ofNat a.toNat = UInt8.ofNat b.toNat) : a = b := by
  have := congrArg UInt8.toNat h
  simp at this
  omega
theorem wideS_inj : ∀ {l k : List Int}, (∀ x ∈ l, I64 x) → (∀ x ∈ k, I64 x) → wideS l = wideS k → l = k
  | [], [], _, _, _ => rfl
  | [], b :: k, _, _, h => by
    have := congrArg List.length h
    simp [wideS, toStr, wide8] at this
    omega
  | a :: l, [], _, _, h => by
    have := congrArg List.length h
    simp [wideS, toStr, wide8] at this
  | a :: l, b :: k, hl, hk, h => by
    simp only [wideS, toStr, List.flatMap_cons, List.map_append] at h
    obtain ⟨h1, h2⟩ := List.append_inj h (by simp [wide8])
    have e2 : l = k := wideS_inj (fun x hx => hl x (by simp [hx])) (fun x hx => hk x (by simp [hx])) h2
    have e1 : a = b := by
      refine wide8_inj (hl a (by simp)) (hk b (by simp)) fun j hj => ?_
      have := congrArg (fun q => q[j]?) h1
      simp [wide8, hj] at this
      exact ofNat_inj (byt_lt a j) (byt_lt b j) this
    rw [e1, e2]

/-! ### the partition -/
def Eqv (d : T_DFA) (s t : Int) : Prop := ∀ w, res d s w = res d t w
def AllLive (d : T_DFA) : Prop := ∀ s b, inR d s → b < 256 → 0 ≤ stepN d s b → Live d (stepN d s b)
def gp (p : List Int) (s : Nat) : Int := p.getD s 0
def nxt (p : List Int) (t : Int) : Int := if t < 0 then 0 else p.getD t.toNat 0 + 1
def keyP (d : T_DFA) (p : List Int) (s : Nat) : List Int := [gp p s, IntKind.i64.wrap (d.Accept.getD s 0 + 1)] ++ (d.Next.getD s []).map (nxt p)
structure PartOk (d : T_DFA) (p : List Int) : Prop where
  len : p.length = d.Next.length
  lt : ∀ s, s < d.Next.length → 0 ≤ gp p s ∧ gp p s < (d.Next.length : Int)
  eq : ∀ s t, s < d.Next.length → t < d.Next.length → (gp p s = gp p t ↔ Eqv d (s : Int) (t : Int))
theorem Eqv.step {d : T_DFA} {s t : Int} (h : Eqv d s t) {b : Nat} (hb : b < 256) : Eqv d (stepN d s b) (stepN d t b) := fun w => by
  have := h (UInt8.ofNat b :: w)
  have e1 : (UInt8.ofNat b).toNat = b := by simp; omega
  rwa [res_cons, res_cons, e1] at this
theorem Eqv.neg {d : T_DFA} {s t : Int} (h : Eqv d s t) (hs : s < 0) (hl : 0 ≤ t → Live d t) : t < 0 := by
  by_cases ht : 0 ≤ t
  · obtain ⟨w, hw⟩ := hl ht
    have := h w
    rw [res_neg hs] at this; omega
  · omega
theorem Eqv.symm {d : T_DFA} {s t : Int} (h : Eqv d s t) : Eqv d t s := fun w => (h w).symm
theorem get_D {l : List Int} {c : Nat} (h : c < l.length) : l[c]? = some (l.getD c 0) := by
  rw [List.getD_eq_getElem?_getD, List.getElem?_eq_getElem h]; rfl
theorem step_col {d : T_DFA} {s b c : Nat} (e : clsF d b = (c : Int)) : stepN d (s : Int) b = (d.Next.getD s []).getD c 0 := by
  unfold stepN
  unfold clsF at e
  rw [if_neg (by omega), e]; rfl
section
variable {d : T_DFA} (h : Ok d) (hf : Full d) (hal : AllLive d) (hacc : ∀ a ∈ d.Accept, a ≤ 9223372036854775807)
include h hf hal in
theorem key_of_eqv {p : List Int} (hp : ∀ s t, s < d.Next.length → t < d.Next.length → Eqv d (s : Int) (t : Int) → gp p s = gp p t) {s t : Nat} (hs : s < d.Next.length) (ht : t < d.Next.length) (he : Eqv d (s : Int) (t : Int)) : keyP d p s = keyP d p t := by
  unfold keyP
  have ha : d.Accept.getD s 0 = d.Accept.getD t 0 := by
    have := he []
    simp only [res_nil, accN] at this
    rw [if_neg (by omega), if_neg (by omega)] at this
    simpa using this
  rw [hp s t hs ht he, ha]
  congr 1
  have hrs := row_get h hs
  have hrt := row_get h ht
  apply List.ext_getElem?
  intro c
  rw [List.getElem?_map, List.getElem?_map]
  by_cases hc : c < cols d
  rotate_left
  · rw [List.getElem?_eq_none (by rw [hrs.1]; omega), List.getElem?_eq_none (by rw [hrt.1]; omega)]
  obtain ⟨b, hb, e⟩ := hf c hc
  rw [get_D (by rw [hrs.1]; exact hc), get_D (by rw [hrt.1]; exact hc), ← step_col e, ← step_col e]
  simp only [Option.map_some, Option.some.injEq]
  have hes := he.step hb
  have is1 := stepN_in h (s := (s : Int)) ⟨by omega, by omega⟩ hb
  have is2 := stepN_in h (s := (t : Int)) ⟨by omega, by omega⟩ hb
  have l1 := hal (s : Int) b ⟨by omega, by omega⟩ hb
  have l2 := hal (t : Int) b ⟨by omega, by omega⟩ hb
  unfold nxt
  by_cases n1 : stepN d (s : Int) b < 0
  · rw [if_pos n1, if_pos (hes.neg n1 l2)]
  · rw [if_neg n1, if_neg (fun n2 => n1 (hes.symm.neg n2 l1))]
    congr 1
    have e1 : ((stepN d (s : Int) b).toNat : Int) = stepN d (s : Int) b := by omega
    have n2 : ¬ stepN d (t : Int) b < 0 := fun n2 => n1 (hes.symm.neg n2 l1)
    have e2 : ((stepN d (t : Int) b).toNat : Int) = stepN d (t : Int) b := by omega
    have := hp (stepN d (s : Int) b).toNat (stepN d (t : Int) b).toNat (by have := is1.2; omega) (by have := is2.2; omega) (by rw [e1, e2]; exact hes)
    exact this
include h hacc in
theorem eqv_of_key {p : List Int} (hlt : ∀ s, s < d.Next.length → 0 ≤ gp p s) (hst : ∀ s t, s < d.Next.length → t < d.Next.length → gp p s = gp p t → keyP d p s = keyP d p t) (w : Str) : ∀ s t, s < d.Next.length → t < d.Next.length → gp p s = gp p t → res d (s : Int) w = res d (t : Int) w := by
  induction w with
  | nil =>
    intro s t hs ht he
    have hk := hst s t hs ht he
    simp only [keyP, List.cons_append, List.nil_append, List.cons.injEq] at hk
    have hw := hk.2.1
    have hsa := getD_mem (l := d.Accept) (i := s) (d := 0) (by rw [h.acc]; exact hs)
    have hta := getD_mem (l := d.Accept) (i := t) (d := 0) (by rw [h.acc]; exact ht)
    have b1 := h.accs _ hsa
    have b2 := h.accs _ hta
    have b3 := hacc _ hsa
    have b4 := hacc _ hta
    rw [IntKind.wrap_i64, IntKind.wrap_i64] at hw
    simp only [res_nil, accN]
    rw [if_neg (by omega), if_neg (by omega)]
    simp only [Int.toNat_natCast]
    omega
  | cons c w ih =>
    intro s t hs ht he
    have hk := hst s t hs ht he
    simp only [keyP, List.cons_append, List.nil_append, List.cons.injEq] at hk
    have hw := hk.2.2
    rw [res_cons, res_cons]
    obtain ⟨k, hkl, ec, e1⟩ := step_row h hs c.toNat_lt
    have e2 : stepN d (t : Int) c.toNat = (d.Next.getD t []).getD k 0 := step_col ec
    have hrs := row_get h hs
    have hrt := row_get h ht
    have hn : nxt p (stepN d (s : Int) c.toNat) = nxt p (stepN d (t : Int) c.toNat) := by
      rw [e1, e2]
      have := congrArg (fun q => q[k]?) hw
      simp only [List.getElem?_map] at this
      rw [get_D (by rw [hrs.1]; exact hkl), get_D (by rw [hrt.1]; exact hkl)] at this
      simpa only [Option.map_some, Option.some.injEq] using this
    have is1 := stepN_in h (s := (s : Int)) ⟨by omega, by omega⟩ c.toNat_lt
    have is2 := stepN_in h (s := (t : Int)) ⟨by omega, by omega⟩ c.toNat_lt
    unfold nxt at hn
    by_cases n1 : stepN d (s : Int) c.toNat < 0 <;> by_cases n2 : stepN d (t : Int) c.toNat < 0
    · rw [res_neg n1, res_neg n2]
    · rw [if_pos n1, if_neg n2] at hn
      have := hlt (stepN d (t : Int) c.toNat).toNat (by have := is2.2; omega)
      unfold gp at this; omega
    · rw [if_neg n1, if_pos n2] at hn
      have := hlt (stepN d (s : Int) c.toNat).toNat (by have := is1.2; omega)
      unfold gp at this; omega
    · rw [if_neg n1, if_neg n2] at hn
      have := ih (stepN d (s : Int) c.toNat).toNat (stepN d (t : Int) c.toNat).toNat (by have := is1.2; omega) (by have := is2.2; omega) (by unfold gp; omega)
      rwa [show ((stepN d (s : Int) c.toNat).toNat : Int) = stepN d (s : Int) c.toNat by omega, show ((stepN d (t : Int) c.toNat).toNat : Int) = stepN d (t : Int) c.toNat by omega] at this
include h hf in
theorem key_ok {p : List Int} (hlt : ∀ s, s < d.Next.length → 0 ≤ gp p s ∧ gp p s < (d.Next.length : Int)) {s : Nat} (hs : s < d.Next.length) : (∀ x ∈ keyP d p s, I64 x) ∧ (keyP d p s).length ≤ 1000000 := by
  have hm := h.max
  have hrs := row_get h hs
  constructor
  · intro x hx
    simp only [keyP, List.cons_append, List.nil_append, List.mem_cons, List.mem_map] at hx
    rcases hx with rfl | rfl | ⟨t, ht, rfl⟩
    · have := hlt s hs; unfold I64; omega
    · unfold I64; rw [IntKind.wrap_i64]; omega
    · unfold nxt I64
      split
      · omega
      · have := hlt t.toNat (by have := (hrs.2 t ht).2; omega)
        unfold gp at this; omega
  · have := cols_256 hf
    simp only [keyP, List.length_append, List.length_map, hrs.1]
    simp; omega
include h hf in
/-- One round: the states are numbered by their keys. -/
theorem round_is {p : List Int} (hp : p.length = d.Next.length) (hlt : ∀ s, s < d.Next.length → 0 ≤ gp p s ∧ gp p s < (d.Next.length : Int)) : Is (loopM (fun (st9 : (List (Str × Int)) × (List Int) × Int) => match st9 with
   | (m68, l27, xv468) =>
    bif (decide (xv468 < (d.Next.length : Int))) then
     (
      (idxL d.Next xv468).bind fun e946 =>
      (idxL p xv468).bind fun e947 =>
      (idxL d.Accept xv468).bind fun e948 =>
      (
       loopM (fun (st9 : (List Int) × Int) => match st9 with
       | (xv521, xv522) =>
        bif (decide (xv522 < (e946.length : Int))) then
         (
          (idxL e946 xv522).bind fun e971 =>
          bif (decide (e971 < 0)) then
           (appM 8 xv521 [0]).bind fun y1132 =>
           some y1132
          else
           (idxL p e971).bind fun e972 =>
           (chk .i64 (e972 + 1)).bind fun t700 =>
           (appM 8 xv521 [t700]).bind fun y1133 =>
           some y1133).bind fun (y1131 : (List Int)) =>
         (chk .i64 (xv522 + 1)).bind fun t701 =>
         some (.next (y1131, t701))
        else
         some (.stop xv521)) fuel ([e947, (IntKind.i64.wrap (e948 + 1))], (0 : Int))).bind fun (xv518 : (List Int)) =>
      (M.dfa_wide xv518).bind fun rv106 =>
      (
       bif (!((mget m68 rv106).isSome)) then
        (M.dfa_wide xv518).bind fun rv108 =>
        some ((mset m68 rv108 (m68.length : Int)), (m68.length : Int))
       else
        some (m68, ((mget m68 rv106).getD 0))).bind fun (m75, xv525) =>
      (setL l27 xv468 xv525).bind fun y1134 =>
      some (m75, y1134)).bind fun (m74, y1103) =>
     (chk .i64 (xv468 + 1)).bind fun t702 =>
     some (.next (m74, y1103, t702))
    else
     some (.stop (m68, l27))) fuel (([] : (List (Str × Int))), List.replicate d.Next.length 0, (0 : Int)))
    (fun r => r.1.length = (D (keyP d p) d.Next.length).length ∧ r.2 = (List.range d.Next.length).map (numI (keyP d p))) := by
  have hmax := h.max
  have hacc := h.acc
  have hcol := cols_256 hf
  refine Is.upto (fun i st => NumMap (fun k => ∀ x ∈ k, I64 x) wideS st.1 (D (keyP d p) i) ∧ st.2 = (tab (numI (keyP d p)) d.Next.length i, (i : Int))) d.Next.length (by omega) ⟨NumMap.nil, by rw [tab_zero]; rfl⟩ ?_ ?_
  · rintro s ⟨m, _⟩ hs ⟨hm, rfl⟩
    simp only [] at hm ⊢
    have hrs := row_get h hs
    obtain ⟨hk1, hk2⟩ := key_ok h hf hlt hs
    have hrow : idxL d.Next (s : Int) = some (d.Next.getD s []) := by
      rw [idxL_nat hs, List.getD_eq_getElem?_getD, List.getElem?_eq_getElem hs]; rfl
    refine Is.dt (by omega) (Is.bnd (P := fun r => NumMap (fun k => ∀ x ∈ k, I64 x) wideS r.1 (D (keyP d p) (s + 1)) ∧ r.2 = tab (numI (keyP d p)) d.Next.length (s + 1)) ?_ ?_)
    · refine Is.bnq hrow (Is.bnq (x := gp p s) ?_ (Is.bnq (x := d.Accept.getD s 0) ?_ (Is.bnd (P := fun r => r = keyP d p s) ?_ ?_)))
      · rw [idxL_nat (by omega)]; unfold gp; rw [List.getD_eq_getElem?_getD, List.getElem?_eq_getElem (by omega)]; rfl
      · rw [idxL_nat (by omega)]; rw [List.getD_eq_getElem?_getD, List.getElem?_eq_getElem (by omega)]; rfl
      · unfold keyP
        generalize d.Next.getD s [] = q at hrs
        refine Is.upto (fun j st => st = ([gp p s, IntKind.i64.wrap (d.Accept.getD s 0 + 1)] ++ (q.take j).map (nxt p), (j : Int))) q.length (by omega) (by simp) ?_ ?_
        · rintro j _ hj rfl
          simp only []
          have hq := hrs.2 _ (List.getElem_mem hj)
          refine Is.dt (by omega) (Is.bnd (P := fun r => r = [gp p s, IntKind.i64.wrap (d.Accept.getD s 0 + 1)] ++ (q.take (j + 1)).map (nxt p)) ?_ ?_)
          · rw [map_take_succ _ hj, ← List.append_assoc]
            refine Is.bnq (idxL_nat hj) (Is.dcd (fun h0 => Is.bnq (appM_ok (by simp; omega)) (Is.pure (by rw [show nxt p q[j] = 0 by unfold nxt; rw [if_pos h0]]))) fun h0 => ?_)
            have hq2 := hlt q[j].toNat (by have := hq.2; omega)
            have hq3 := hq.2
            refine Is.bnq (idxL_int (d := 0) (by omega) (by rw [hp]; exact hq.2)) (Is.bnq (chk_i64 (by unfold gp at hq2; omega) (by unfold gp at hq2; omega)) (Is.bnq (appM_ok (by simp; omega)) (Is.pure ?_)))
            rw [show nxt p q[j] = p.getD q[j].toNat 0 + 1 by unfold nxt; rw [if_neg h0]]
          · rintro _ rfl
            exact Is.bnq (chk_succ (by omega)) (Is.next rfl)
        · rintro _ rfl
          exact Is.df (by simp) (Is.stop (by rw [List.take_length]))
      · rintro _ rfl
        refine Is.bnq (wide_eq hk2) (Is.bnd (P := fun r => NumMap (fun k => ∀ x ∈ k, I64 x) wideS r.1 (D (keyP d p) (s + 1)) ∧ r.2 = numI (keyP d p) s) ?_ ?_)
        · rcases num_step hm (fun k k' a b => wideS_inj a b) hk1 with ⟨h1, h2, h3, h4⟩ | ⟨h1, h2, h3, h4⟩
          · rw [h1, h2]
            exact Is.cf rfl (Is.pure ⟨h3, rfl⟩)
          · rw [h1, hm.1]
            exact Is.ct rfl (Is.bnq (wide_eq hk2) (Is.pure ⟨h3, h2⟩))
        · rintro ⟨m2, _⟩ ⟨h1, rfl⟩
          exact Is.bnq (setL_tab hs) (Is.pure ⟨h1, rfl⟩)
    · rintro ⟨m2, _⟩ ⟨h1, rfl⟩
      exact Is.bnq (chk_succ (by omega)) (Is.next ⟨h1, rfl⟩)
  · rintro ⟨m, _⟩ ⟨hm, rfl⟩
    exact Is.df (by omega) (Is.stop ⟨hm.1, by rw [tab_all]⟩)
theorem gp_map {n : Nat} {f : Nat → Int} {s : Nat} (hs : s < n) : gp ((List.range n).map f) s = f s := by
  simp [gp, List.getD_eq_getElem?_getD, hs]
include h hf hal hacc in
theorem partition_is : Is (M.dfa_partition d) (PartOk d) := by
  have hmax := h.max
  have hpos := h.pos
  unfold M.dfa_partition
  refine Is.bnq (mkM_nat (by omega)) ?_
  refine Is.while (fun st => ∃ k : Nat, st.2 = (k : Int) ∧ st.1.length = d.Next.length ∧ (∀ s, s < d.Next.length → 0 ≤ gp st.1 s ∧ gp st.1 s < (d.Next.length : Int)) ∧
      (∀ s t, s < d.Next.length → t < d.Next.length → Eqv d (s : Int) (t : Int) → gp st.1 s = gp st.1 t) ∧ (k = 0 ∨ k = (D (gp st.1) d.Next.length).length))
    (fun st => d.Next.length - st.2.toNat) ⟨0, rfl, by simp, fun s hs => ?_, fun s t hs ht _ => ?_, .inl rfl⟩ (by simp only []; omega) ?_
  · simp [gp, List.getD_eq_getElem?_getD, hs]; omega
  · simp [gp, List.getD_eq_getElem?_getD, hs, ht]
  rintro ⟨p, _⟩ ⟨k, rfl, hp, hlt, hco, hk⟩
  simp only [] at hp hlt hco hk ⊢
  rw [hp]
  refine Is.bnq (mkM_nat (by omega)) (Is.bnd (round_is h hf hp hlt) ?_)
  rintro ⟨m, _⟩ ⟨hm, rfl⟩
  simp only [] at hm ⊢
  have href : ∀ i j, i < d.Next.length → j < d.Next.length → keyP d p i = keyP d p j → gp p i = gp p j := fun i j _ _ e => by
    simp only [keyP, List.cons_append, List.cons.injEq] at e; exact e.1
  obtain ⟨hc1, hc2⟩ := num_count (σ := keyP d p) (τ := gp p) (n := d.Next.length) href
  have hnl := D_len (keyP d p) d.Next.length
  have hn0 : 0 < (D (gp p) d.Next.length).length := by
    have := num_lt (σ := gp p) (i := 0) (j := d.Next.length) (by omega)
    omega
  have hnum : ∀ s, s < d.Next.length → 0 ≤ numI (keyP d p) s ∧ numI (keyP d p) s < (d.Next.length : Int) := fun s hs => by
    have := num_lt (σ := keyP d p) hs
    unfold numI; omega
  rw [hm]
  refine Is.cnd (fun e => Is.stop ?_) fun e => Is.next ?_
  · have e := of_beq_t e
    have hst := hc2 (by omega)
    refine ⟨by simp, fun s hs => by rw [gp_map hs]; exact hnum s hs, fun s t hs ht => ?_⟩
    rw [gp_map hs, gp_map ht]
    constructor
    · intro he w
      have he : num (keyP d p) s = num (keyP d p) t := by unfold numI at he; omega
      exact eqv_of_key h hacc (fun s hs => (hlt s hs).1) hst w s t hs ht (href s t hs ht (num_inj.1 he))
    · intro he
      unfold numI
      rw [num_inj.2 (key_of_eqv h hf hal hco hs ht he)]
  · have e := of_beq_f e
    refine ⟨⟨_, rfl, by simp, fun s hs => by rw [gp_map hs]; exact hnum s hs, fun s t hs ht he => ?_, .inr ?_⟩, by simp only [Int.toNat_natCast]; omega⟩
    · simp only []
      rw [gp_map hs, gp_map ht]
      unfold numI
      rw [num_inj.2 (key_of_eqv h hf hal hco hs ht he)]
    · have := (num_uniq (σ := keyP d p) (τ := gp ((List.range d.Next.length).map (numI (keyP d p)))) (n := d.Next.length) (fun i j hi hj => by
        rw [gp_map hi, gp_map hj]
        unfold numI
        rw [Int.ofNat_inj, num_inj])) d.Next.length (Nat.le_refl _)
      exact this.1
end
end Go.Proofs.Ytogpainomdfpnaa
