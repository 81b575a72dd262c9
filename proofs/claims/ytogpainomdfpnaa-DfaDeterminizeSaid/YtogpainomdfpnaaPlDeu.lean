/- Plain facts on the subset construction: the program's. -/
import Derived.Test.YtogpainomdfpnaaPlDet
import Derived.Test.YtogpainomdfpnaaPl10b
namespace Go.Proofs.Ytogpainomdfpnaa
open Go.Lx

/-! ### keys -/
def pair8 (s : Int) : List Int := [IntKind.u8.wrap s, IntKind.u8.wrap (s / 256)]
def keyS (l : List Int) : Str := toStr (l.flatMap pair8)
theorem wrap8 (k : Nat) : IntKind.u8.wrap (k : Int) = ((k % 256 : Nat) : Int) := by simp [IntKind.wrap, IntKind.bits, IntKind.signed]
theorem keyS_inj : ∀ {l m : List Int}, (∀ s ∈ l, 0 ≤ s ∧ s < 65536) → (∀ s ∈ m, 0 ≤ s ∧ s < 65536) → keyS l = keyS m → l = m
  | [], [], _, _, _ => rfl
  | [], _ :: _, _, _, h => by simp [keyS, toStr, pair8] at h
  | _ :: _, [], _, _, h => by simp [keyS, toStr, pair8] at h
  | a :: l, b :: m, hl, hm, h => by
    simp only [keyS, toStr, List.flatMap_cons, pair8, List.cons_append, List.nil_append, List.map_cons, List.cons.injEq] at h
    obtain ⟨h1, h2, h3⟩ := h
    have ha := hl a (by simp)
    have hb := hm b (by simp)
    obtain ⟨x, rfl⟩ := Int.eq_ofNat_of_zero_le ha.1
    obtain ⟨y, rfl⟩ := Int.eq_ofNat_of_zero_le hb.1
    have e1 : ((x : Int) / 256) = ((x / 256 : Nat) : Int) := by omega
    have e2 : ((y : Int) / 256) = ((y / 256 : Nat) : Int) := by omega
    rw [e1, e2, wrap8, wrap8, Int.toNat_natCast, Int.toNat_natCast] at h2
    rw [wrap8, wrap8, Int.toNat_natCast, Int.toNat_natCast] at h1
    have g1 := congrArg UInt8.toNat h1
    have g2 := congrArg UInt8.toNat h2
    rw [UInt8.toNat_ofNat', UInt8.toNat_ofNat'] at g1 g2
    have : x = y := by omega
    subst this
    rw [keyS_inj (fun s hs => hl s (by simp [hs])) (fun s hs => hm s (by simp [hs])) h3]
theorem key_ok {l : List Int} (hl : l.length ≤ 1000000) : M.dfa_key l = some (keyS l) := by
  refine Is.eq ?_
  unfold M.dfa_key
  refine Is.bnq (x := l.flatMap pair8) ?_ (Is.pure rfl)
  refine Is.eq ?_
  refine Is.upto (fun i (st : List Int × Int) => st.2 = (i : Int) ∧ st.1 = (l.take i).flatMap pair8) l.length (by omega) ⟨rfl, rfl⟩ ?_ ?_
  · rintro i ⟨a, _⟩ hi ⟨rfl, h1⟩
    obtain rfl : a = _ := h1
    have hlen : ((l.take i).flatMap pair8).length ≤ 2 * i := by
      have : ∀ q : List Int, (q.flatMap pair8).length = 2 * q.length := by
        intro q
        induction q with
        | nil => rfl
        | cons x q ih => simp [pair8] at ih ⊢; omega
      rw [this, List.length_take]; omega
    refine Is.dt (by omega) (Is.bnq (idxL_nat hi) (Is.bnq (x := l[i] / 256) rfl (Is.bnq (appM_ok (by simp only [List.length_cons, List.length_nil]; omega)) (Is.bnq (chk_succ (by omega)) (Is.next ⟨rfl, ?_⟩)))))
    rw [List.take_add_one, List.getElem?_eq_getElem hi, List.flatMap_append]
    simp [pair8]
  · rintro ⟨a, _⟩ ⟨rfl, h1⟩
    obtain rfl : a = _ := h1
    refine Is.df (by omega) (Is.stop ?_)
    rw [List.take_length]
/-- The map from keys to numbers. -/
structure Num (n : T_NFA) (sets : List (List Int)) (m : List (Str × Int)) : Prop where
  old : ∀ (S : List Int) (k : Nat), sets[k]? = some S → mget m (keyS S) = some (k : Int)
  new : ∀ S : List Int, (∃ T, S = clo n T) → S ∉ sets → mget m (keyS S) = none
/-- What row c of a state S holds. -/
def Ent (n : T_NFA) (sets : List (List Int)) (S : List Int) (b : Nat) (x : Option Int) : Prop :=
  (stp n S b = [] ∧ x = some (-1)) ∨ ∃ k : Nat, sets[k]? = some (stp n S b) ∧ x = some (k : Int)
def RowOk (n : T_NFA) (fb : List Int) (sets : List (List Int)) (S row : List Int) : Prop :=
  row.length = fb.length ∧ ∀ (c b : Nat), c < fb.length → fb[c]? = some (b : Int) → Ent n sets S b row[c]?
theorem get_app {α : Type} {l m : List α} {k : Nat} {x : α} (h : l[k]? = some x) : (l ++ m)[k]? = some x := by
  rw [List.getElem?_append_left (List.getElem?_eq_some_iff.1 h).1]; exact h
theorem Ent.app {n : T_NFA} {sets : List (List Int)} {S : List Int} {b : Nat} {x : Option Int} (h : Ent n sets S b x) (m : List (List Int)) : Ent n (sets ++ m) S b x := by
  rcases h with h | ⟨k, h1, h2⟩
  · exact .inl h
  · exact .inr ⟨k, get_app h1, h2⟩
theorem RowOk.app {n : T_NFA} {fb : List Int} {sets : List (List Int)} {S row : List Int} (h : RowOk n fb sets S row) (m : List (List Int)) : RowOk n fb (sets ++ m) S row :=
  ⟨h.1, fun c b hc hb => (h.2 c b hc hb).app m⟩
theorem filt_true {α : Type} (l : List α) : l.filter (fun _ => true) = l := List.filter_eq_self.2 fun _ _ => rfl
theorem best_ge (acc : List Int) (l : List Int) : -1 ≤ best acc l := by
  have : ∀ (l : List Int) (o : Int), -1 ≤ o → -1 ≤ l.foldl (best1 acc) o := by
    intro l
    induction l with
    | nil => exact fun _ h => h
    | cons x l ih =>
      intro o ho
      refine ih _ ?_
      unfold best1
      cases h : decide (0 ≤ acc.getD x.toNat 0) && (decide (o < 0) || decide (acc.getD x.toNat 0 < o))
      · exact ho
      · rw [Bool.and_eq_true, decide_eq_true_eq] at h
        show -1 ≤ acc.getD x.toNat 0
        omega
  exact this l _ (by omega)
theorem getD_of {α : Type} {l : List α} {k : Nat} {x d : α} (h : l[k]? = some x) : l.getD k d = x := by rw [List.getD_eq_getElem?_getD, h]; rfl
section
variable {n : T_NFA} (hn : FitN n) (hlen : n.Arcs.length ≤ 1000)
include hn
theorem clo_16 {S : List Int} (h : ∃ T, S = clo n T) : (∀ s ∈ S, 0 ≤ s ∧ s < 65536) ∧ S.length ≤ 2000 := by
  have h1 := best_clo hn S h
  have h2 := hn.acc
  have h3 := hn.most
  exact ⟨fun s hs => by have := h1.1 s hs; omega, h1.2⟩
theorem Num.add {sets : List (List Int)} {m : List (Str × Int)} (h : Num n sets m) (hs : ∀ T ∈ sets, ∃ U, T = clo n U) {S : List Int} (hS : S ∉ sets) (hc : ∃ T, S = clo n T) : Num n (sets ++ [S]) (mset m (keyS S) (sets.length : Int)) := by
  refine ⟨fun T k hk => ?_, fun T hT hT2 => ?_⟩
  · by_cases e : k < sets.length
    · rw [List.getElem?_append_left e] at hk
      have hmem := List.mem_of_getElem? hk
      have hne : keyS T ≠ keyS S := fun e2 => hS (by rw [← keyS_inj (clo_16 hn (hs T hmem)).1 (clo_16 hn hc).1 e2]; exact hmem)
      rw [mget_ne hne]
      exact h.old T k hk
    · rw [List.getElem?_append_right (by omega)] at hk
      have h1 := (List.getElem?_eq_some_iff.1 hk).1
      simp only [List.length_singleton] at h1
      have : k = sets.length := by omega
      subst this
      simp only [Nat.sub_self, List.getElem?_cons_zero, Option.some.injEq] at hk
      subst hk
      exact mget_self
  · have hne : keyS T ≠ keyS S := fun e2 => hT2 (by rw [keyS_inj (clo_16 hn hT).1 (clo_16 hn hc).1 e2]; simp)
    rw [mget_ne hne]
    exact h.new T hT fun h2 => hT2 (List.mem_append_left _ h2)
def DetOk (n : T_NFA) (d : T_DFA) : Prop := Ok d ∧ (∀ w : Str, accN d (walkN d 0 w) = runN n w) ∧ cols d ≤ 256
/-- What the construction has at its end. -/
structure Fine (n : T_NFA) (fb : List Int) (sets nx : List (List Int)) (ac : List Int) : Prop where
  all : Sets n sets
  zero : sets[0]? = some (clo n [n.Start])
  few : sets.length ≤ 500
  nxl : nx.length = sets.length
  acl : ac.length = sets.length
  row : ∀ (j : Nat) (S : List Int), sets[j]? = some S → ∃ r, nx[j]? = some r ∧ RowOk n fb sets S r
  acc : ∀ (j : Nat) (S : List Int), sets[j]? = some S → ac[j]? = some (best n.Accept S)
omit hn hlen in
theorem fine_det {fb : List Int} {sets nx : List (List Int)} {ac : List Int} (hf : Firsts (sig (n.Arcs.map (·.Set))) 256 fb) (h : Fine n fb sets nx ac) : DetOk n ⟨clsL (n.Arcs.map (·.Set)), nx, ac⟩ := by
  have hfl := hf.len
  have hz : 0 < sets.length := (List.getElem?_eq_some_iff.1 h.zero).1
  have hrow0 : ∀ r ∈ nx, ∃ S, RowOk n fb sets S r := by
    intro r hr
    obtain ⟨j, hj, rfl⟩ := List.mem_iff_getElem.1 hr
    have hj2 : j < sets.length := by rw [← h.nxl]; exact hj
    obtain ⟨r2, h1, h2⟩ := h.row j sets[j] (List.getElem?_eq_getElem hj2)
    rw [List.getElem?_eq_getElem hj] at h1
    rw [Option.some.inj h1]
    exact ⟨_, h2⟩
  have hcols : cols ⟨clsL (n.Arcs.map (·.Set)), nx, ac⟩ = fb.length := by
    unfold cols
    obtain ⟨r, h1, h2⟩ := h.row 0 _ h.zero
    show (nx.getD 0 []).length = _
    rw [getD_of h1]
    exact h2.1
  have hok : Ok ⟨clsL (n.Arcs.map (·.Set)), nx, ac⟩ := by
    refine ⟨by simp [clsL], by show 1 ≤ nx.length; rw [h.nxl]; omega, by show nx.length ≤ 500; rw [h.nxl]; exact h.few, by show ac.length = nx.length; rw [h.nxl, h.acl], by rw [hcols]; exact hfl.1, fun c hc => ?_, fun r hr => ?_, fun a ha => ?_⟩
    · rw [hcols]
      have hc : c ∈ (List.range 256).map fun i => (cls (sig (n.Arcs.map (·.Set))) i : Int) := hc
      obtain ⟨b, hb, rfl⟩ := List.mem_map.1 hc
      obtain ⟨_, _, h2, _⟩ := hf.at (List.mem_range.1 hb)
      omega
    · obtain ⟨S, hS⟩ := hrow0 r hr
      refine ⟨by rw [hcols]; exact hS.1, fun t ht => ?_⟩
      obtain ⟨c, hc, rfl⟩ := List.mem_iff_getElem.1 ht
      have hcf : c < fb.length := by rw [← hS.1]; exact hc
      obtain ⟨b, hb, hb2⟩ := hf.byte hcf
      have hfc : fb[c]? = some (b : Int) := by
        rw [idxL_nat hcf] at hb2
        rw [List.getElem?_eq_getElem hcf, Option.some.inj hb2]
      rcases hS.2 c b hcf hfc with ⟨_, h2⟩ | ⟨k, h1, h2⟩
      · rw [List.getElem?_eq_getElem hc] at h2
        rw [Option.some.inj h2]
        show -1 ≤ (-1 : Int) ∧ (-1 : Int) < (nx.length : Int)
        omega
      · rw [List.getElem?_eq_getElem hc] at h2
        rw [Option.some.inj h2]
        have := (List.getElem?_eq_some_iff.1 h1).1
        show -1 ≤ (k : Int) ∧ (k : Int) < (nx.length : Int)
        rw [h.nxl]
        omega
    · obtain ⟨j, hj, rfl⟩ := List.mem_iff_getElem.1 ha
      have hj2 : j < sets.length := by rw [← h.acl]; exact hj
      have h1 := h.acc j sets[j] (List.getElem?_eq_getElem hj2)
      have hj3 : ac[j]? = some ac[j] := List.getElem?_eq_getElem hj
      rw [hj3] at h1
      rw [Option.some.inj h1]
      exact best_ge _ _
  refine ⟨hok, fun w => ?_, by rw [hcols]; exact hfl.2⟩
  -- states beside sets
  let d : T_DFA := ⟨clsL (n.Arcs.map (·.Set)), nx, ac⟩
  have sim : ∀ (w : Str) (q : Int) (S : List Int), ((q = -1 ∧ S = []) ∨ ∃ k : Nat, q = (k : Int) ∧ sets[k]? = some S) →
      accN d (walkN d q w) = best n.Accept ((w.map UInt8.toNat).foldl (stp n) S) := by
    intro w
    induction w with
    | nil =>
      rintro q S (⟨rfl, rfl⟩ | ⟨k, rfl, hk⟩)
      · rfl
      · show accN d (k : Int) = best n.Accept S
        unfold accN
        rw [if_neg (by omega), Int.toNat_natCast]
        exact getD_of (h.acc k S hk)
    | cons c w ih =>
      rintro q S hq
      refine ih _ _ ?_
      have hc := c.toNat_lt
      rcases hq with ⟨rfl, rfl⟩ | ⟨k, rfl, hk⟩
      · exact .inl ⟨rfl, stp_nil n _⟩
      · obtain ⟨b', g1, g2, g3, g4⟩ := hf.at hc
        obtain ⟨r, h1, h2⟩ := h.row k S hk
        have hp : ∀ a ∈ n.Arcs, a.Epsilon = false → (fun _ => true) a = true := fun _ _ _ => rfl
        have e1 : stp n S c.toNat = stp n S b' := (stp_sig (p := fun _ => true) hp (by rw [filt_true]; exact g4) S).symm
        have e2 : stepN d (k : Int) c.toNat = r.getD (cls (sig (n.Arcs.map (·.Set))) c.toNat) 0 := by
          unfold stepN
          rw [if_neg (by omega), Int.toNat_natCast]
          have e3 : d.Class.getD c.toNat 0 = (cls (sig (n.Arcs.map (·.Set))) c.toNat : Int) := by
            show (clsL (n.Arcs.map (·.Set))).getD c.toNat 0 = _
            refine getD_of ?_
            unfold clsL
            rw [List.getElem?_map, List.getElem?_range hc]; rfl
          rw [e3, Int.toNat_natCast]
          show (nx.getD k []).getD _ 0 = _
          rw [getD_of h1]
        show (stepN d (k : Int) c.toNat = -1 ∧ stp n S c.toNat = []) ∨ ∃ k' : Nat, stepN d (k : Int) c.toNat = (k' : Int) ∧ sets[k']? = some (stp n S c.toNat)
        rw [e1, e2]
        rcases h2.2 _ _ g2 g3 with ⟨q1, q2⟩ | ⟨k2, q1, q2⟩
        · exact .inl ⟨getD_of q2, q1⟩
        · exact .inr ⟨k2, getD_of q2, q1⟩
  exact sim w 0 _ (.inr ⟨0, rfl, h.zero⟩)
include hlen in
theorem det_ok : Is (M.dfa_Determinize n) fun r => (r = (⟨[], [], []⟩, 11) ∧ Lim n) ∨ (r.2 = 0 ∧ Fin5 n ∧ DetOk n r.1) := by
  have hv : ∃ b, M.nfa_Valid n = some b ∧ b = true := by
    obtain ⟨b, hb, h⟩ := validN_is (n := n) (by omega) (by have := hn.acc; have := hn.most; omega)
    exact ⟨b, hb, h.2 ⟨hn.pos, hn.most, hn.start, hn.acc, hn.low, hn.arcs⟩⟩
  obtain ⟨_, hv, rfl⟩ := hv
  unfold M.dfa_Determinize
  refine Is.bnq hv (Is.cf rfl ?_)
  refine Is.bnq (x := n.Arcs.map (·.Set)) ?_ ?_
  · refine Is.eq ?_
    refine Is.upto (fun i (st : List (Vec 4) × Int) => st.2 = (i : Int) ∧ st.1 = (n.Arcs.take i).map (·.Set)) n.Arcs.length (by omega) ⟨rfl, rfl⟩ ?_ ?_
    · rintro i ⟨a, _⟩ hi ⟨rfl, h1⟩
      obtain rfl : a = _ := h1
      refine Is.dt (by omega) (Is.bnq (idxL_nat hi) (Is.bnq (appM_ok (by simp only [List.length_map, List.length_take, List.length_singleton]; omega)) (Is.bnq (chk_succ (by omega)) (Is.next ⟨rfl, ?_⟩))))
      rw [List.take_add_one, List.getElem?_eq_getElem hi, List.map_append]
      rfl
    · rintro ⟨a, _⟩ ⟨rfl, h1⟩
      obtain rfl : a = _ := h1
      refine Is.df (by omega) (Is.stop ?_)
      rw [List.take_length]
  have hw : ∀ v ∈ n.Arcs.map (·.Set), W4 v := by
    intro v hv
    obtain ⟨a, ha, rfl⟩ := List.mem_map.1 hv
    exact hn.sets a ha
  refine Is.bnq (Classes_eq hw (by rw [List.length_map]; exact hlen)) ?_
  refine Is.bnd (P := Firsts (sig (n.Arcs.map (·.Set))) 256) ?_ fun fb hfb => ?_
  · unfold M.dfa_sample
    exact Is.bnd (firsts_loop (by simp [clsL]) (fun _ _ => rfl)) fun _ h => Is.pure h
  have hfl := hfb.len
  have hc0 : ∃ T, clo n [n.Start] = clo n T := ⟨_, rfl⟩
  have hcl0 := clo_16 hn hc0
  refine Is.bnq (closure_ok hn (by simp)) (Is.bnq (x := clo n [n.Start]) rfl (Is.bnq (key_ok (by omega)) ?_))
  refine Is.bs (P := fun st : List (List Int) × List Int => ∃ sets, Fine n fb sets st.1 st.2 ∧ Fin5 n) (Q := fun r : T_DFA × Int => (r = (⟨[], [], []⟩, 11) ∧ Lim n) ∨ (r.2 = 0 ∧ Fin5 n ∧ DetOk n r.1)) ?_ fun st h => ?_
  case refine_2 =>
    obtain ⟨nx, ac⟩ := st
    obtain ⟨sets, h1, h2⟩ := h
    exact Is.pure (.inr ⟨rfl, h2, fine_det hfb h1⟩)
  refine Is.while (fun st : List (List Int) × List Int × List (List Int) × List (Str × Int) × Int => ∃ i : Nat, st.2.2.2.2 = (i : Int) ∧ i ≤ st.2.2.1.length ∧ st.1.length = i ∧ st.2.1.length = i ∧ Sets n st.2.2.1 ∧ st.2.2.1[0]? = some (clo n [n.Start]) ∧ st.2.2.1.length ≤ 500 ∧ Num n st.2.2.1 st.2.2.2.1 ∧
      (∀ (j : Nat) (S : List Int), j < i → st.2.2.1[j]? = some S → ∃ r, st.1[j]? = some r ∧ RowOk n fb st.2.2.1 S r) ∧ (∀ (j : Nat) (S : List Int), j < i → st.2.2.1[j]? = some S → st.2.1[j]? = some (best n.Accept S))) (fun st => 501 - st.2.2.2.2.toNat)
    ⟨0, rfl, by simp, rfl, rfl, ⟨by simp, fun S hS => by rw [List.mem_singleton.1 hS]; exact .start, by simp⟩, rfl, by simp, ?_, fun j S hj => by omega, fun j S hj => by omega⟩ (by show 501 - _ ≤ _; omega) ?_
  · have h0 : Num n [] [] := ⟨fun S k h => by simp at h, fun S _ _ => rfl⟩
    exact h0.add hn (by simp) (by simp) hc0
  rintro ⟨nx, ac, sets, m, _⟩ ⟨i, rfl, hi, hnx, hac, hs, hzero, h5, hnum, hrow, hacc⟩
  simp only at hi hnx hac hs hzero h5 hnum hrow hacc
  by_cases hil : i < sets.length
  case neg =>
    have : i = sets.length := by omega
    subst this
    have hlt : ∀ (j : Nat) (S : List Int), sets[j]? = some S → j < sets.length := fun j S h => (List.getElem?_eq_some_iff.1 h).1
    refine Is.df (by omega) (Is.stop ⟨sets, ⟨hs, hzero, h5, hnx, hac, fun j S h => hrow j S (hlt j S h) h, fun j S h => hacc j S (hlt j S h) h⟩, sets, h5, ?_⟩)
    have hp : ∀ a ∈ n.Arcs, a.Epsilon = false → (fun _ => true) a = true := fun _ _ _ => rfl
    refine rs_all (p := fun _ => true) hp (fb := fb) (by rw [filt_true]; exact hfb) hs ?_
    intro S hS c b hc hb hne
    obtain ⟨j, hj, rfl⟩ := List.mem_iff_getElem.1 hS
    obtain ⟨r, _, h2⟩ := hrow j _ hj (List.getElem?_eq_getElem hj)
    rcases h2.2 c b hc hb with ⟨h3, _⟩ | ⟨k, h3, _⟩
    · exact absurd h3 hne
    · exact List.mem_of_getElem? h3
  refine Is.dt (by omega) ?_
  have hSi := hs.rs _ (List.getElem_mem hil)
  have hSg : sets[i]? = some sets[i] := List.getElem?_eq_getElem hil
  generalize sets[i] = S at hSi hSg
  have hSl := rs_in hn hSi
  refine Is.bs (P := fun st : List (List Int) × List Int × List (List Int) × List (Str × Int) => ∃ m9, st.2.2.1 = sets ++ m9 ∧ st.1.length = i + 1 ∧ st.2.1.length = i + 1 ∧ Sets n st.2.2.1 ∧ st.2.2.1.length ≤ 500 ∧ Num n st.2.2.1 st.2.2.2 ∧
      (∀ j, j < i → st.1[j]? = nx[j]?) ∧ (∀ j, j < i → st.2.1[j]? = ac[j]?) ∧ (∃ r, st.1[i]? = some r ∧ RowOk n fb st.2.2.1 S r) ∧ st.2.1[i]? = some (best n.Accept S)) ?_ ?_
  · refine Is.bnq (mkM_nat (n := fb.length) (by omega)) ?_
    refine Is.bs (P := fun st : List (List Int) × List (Str × Int) × List Int => ∃ m9, st.1 = sets ++ m9 ∧ Sets n st.1 ∧ st.1.length ≤ 500 ∧ Num n st.1 st.2.1 ∧ RowOk n fb st.1 S st.2.2) ?_ ?_
    · refine Is.upto (fun c (st : List (List Int) × List (Str × Int) × List Int × Int) => st.2.2.2 = (c : Int) ∧ (∃ m9, st.1 = sets ++ m9) ∧ Sets n st.1 ∧ st.1.length ≤ 500 ∧ Num n st.1 st.2.1 ∧ st.2.2.1.length = fb.length ∧ (∀ (c' b : Nat), c' < c → fb[c']? = some (b : Int) → Ent n st.1 S b st.2.2.1[c']?)) fb.length (by omega)
        ⟨rfl, ⟨[], by simp⟩, hs, h5, hnum, by simp, fun c' b hc => by omega⟩ ?_ ?_
      · rintro c ⟨s1, m1, row, _⟩ hc ⟨rfl, ⟨m9, g1⟩, g2, g3, g4, g5, g6⟩
        simp only at g1 g2 g3 g4 g5 g6
        refine Is.dt (by omega) ?_
        obtain ⟨b, hb1, hb2⟩ := hfb.byte hc
        have hfc : fb[c]? = some (b : Int) := by
          rw [idxL_nat hc] at hb2
          rw [List.getElem?_eq_getElem hc, Option.some.inj hb2]
        have hgS : idxL s1 (i : Int) = some S := by
          have : s1[i]? = some S := by rw [g1]; exact get_app hSg
          have hi1 := (List.getElem?_eq_some_iff.1 this).1
          rw [idxL_nat hi1]
          rw [List.getElem?_eq_getElem hi1] at this
          exact this
        have hcs : ∃ T, stp n S b = clo n T := ⟨_, rfl⟩
        have hsl := clo_16 hn hcs
        have hnext : ∀ (s2 : List (List Int)) (x : Int) (mm : List (List Int)), s2 = s1 ++ mm → Ent n s2 S b (some x) → ∀ row2 : List Int, row2 = row.set c x → ∀ (c' b' : Nat), c' < c + 1 → fb[c']? = some (b' : Int) → Ent n s2 S b' row2[c']? := by
          intro s2 x mm q1 q2 row2 q3 c' b' hc' hb'
          subst q3
          rcases Nat.lt_or_eq_of_le (Nat.le_of_lt_succ hc') with hlt | rfl
          · rw [List.getElem?_set_ne (by omega), q1]
            exact (g6 c' b' hlt hb').app mm
          · rw [hfc] at hb'
            obtain rfl : b = b' := by have := Option.some.inj hb'; omega
            rw [List.getElem?_set_self (by omega)]
            exact q2
        refine Is.bs (P := fun st : List (List Int) × List (Str × Int) × List Int => (∃ m9, st.1 = sets ++ m9) ∧ Sets n st.1 ∧ st.1.length ≤ 500 ∧ Num n st.1 st.2.1 ∧ st.2.2.length = fb.length ∧ (∀ (c' b : Nat), c' < c + 1 → fb[c']? = some (b : Int) → Ent n st.1 S b st.2.2[c']?)) ?_ fun st h => Is.bnq (chk_succ (by omega)) (Is.next ⟨rfl, h⟩)
        refine Is.bnq hb2 (Is.bnq hgS (Is.bnq (step_ok hn (by have := hSl.2; omega) hb1) (Is.bnq (setL_nat (by omega)) ?_)))
        by_cases hz : stp n S b = []
        · rw [hz]
          exact Is.ct rfl (Is.next ⟨⟨m9, g1⟩, g2, g3, g4, by show (row.set c (-1)).length = _; rw [List.length_set]; exact g5, hnext s1 (-1) [] (by simp) (.inl ⟨hz, rfl⟩) _ rfl⟩)
        · refine Is.cf (beq_f (by have := List.length_pos_iff.2 hz; omega)) (Is.bnq (key_ok (by have := hsl.2; omega)) ?_)
          have hr : RS n (stp n S b) := .step hSi hb1 hz
          refine Is.bs (P := fun st : List (List Int) × List (Str × Int) × Int => ∃ (mm : List (List Int)) (k : Nat), st.1 = s1 ++ mm ∧ Sets n st.1 ∧ st.1.length ≤ 500 ∧ Num n st.1 st.2.1 ∧ st.2.2 = (k : Int) ∧ st.1[k]? = some (stp n S b)) ?_ ?_
          · by_cases hmem : stp n S b ∈ s1
            · obtain ⟨k, hk, hkk⟩ := List.mem_iff_getElem.1 hmem
              have hk2 : s1[k]? = some (stp n S b) := by rw [List.getElem?_eq_getElem hk, hkk]
              have hg := g4.old _ k hk2
              refine Is.cf (by rw [hg]; rfl) (Is.next ⟨[], k, by simp, g2, g3, g4, ?_, hk2⟩)
              show (mget m1 (keyS (stp n S b))).getD 0 = _
              rw [hg]; rfl
            · have hg := g4.new _ hcs hmem
              refine Is.ct (by rw [hg]; rfl) (Is.cnd (fun h500 => Is.stop ?_) (fun h500 => ?_))
              · have h500 := of_beq_t h500
                refine .inl ⟨rfl, s1 ++ [stp n S b], (g2.add hmem hr).nodup, by simp only [List.length_append, List.length_singleton]; omega, (g2.add hmem hr).rs⟩
              · have h500 := of_beq_f h500
                refine Is.bnq (key_ok (by have := hsl.2; omega)) (Is.bnq (appM_ok (by simp only [List.length_singleton]; omega)) (Is.next ⟨[stp n S b], s1.length, rfl, g2.add hmem hr, by show (s1 ++ [stp n S b]).length ≤ 500; simp only [List.length_append, List.length_singleton]; omega, g4.add hn (fun T hT => (g2.rs T hT).clo) hmem hcs, rfl, by simp⟩))
          · rintro ⟨s2, m2, k2⟩ ⟨mm, k, q1, q2, q3, q4, rfl, q6⟩
            simp only at q1 q2 q3 q4 q6
            refine Is.bnq (setL_nat (by rw [List.length_set]; omega)) (Is.next ⟨⟨m9 ++ mm, by show s2 = _; rw [q1, g1, List.append_assoc]⟩, q2, q3, q4, by show ((row.set c (-1)).set c (k : Int)).length = _; rw [List.length_set, List.length_set]; exact g5, hnext s2 (k : Int) mm q1 (.inr ⟨k, q6, rfl⟩) _ (List.set_set ..)⟩)
      · rintro ⟨s1, m1, row, _⟩ ⟨rfl, ⟨m9, g1⟩, g2, g3, g4, g5, g6⟩
        exact Is.df (by omega) (Is.stop ⟨m9, g1, g2, g3, g4, g5, fun c b hc hb => g6 c b hc hb⟩)
    · rintro ⟨s1, m1, row⟩ ⟨m9, g1, g2, g3, g4, g5⟩
      simp only at g1 g2 g3 g4 g5
      have hgS : idxL s1 (i : Int) = some S := by
        have : s1[i]? = some S := by rw [g1]; exact get_app hSg
        have hi1 := (List.getElem?_eq_some_iff.1 this).1
        rw [idxL_nat hi1]
        rw [List.getElem?_eq_getElem hi1] at this
        exact this
      refine Is.bnq (appM_ok (by simp only [List.length_singleton]; omega)) (Is.bnq hgS (Is.bnq (accepts_ok hSl.1 (by have := hSl.2; omega)) (Is.bnq (appM_ok (by simp only [List.length_singleton]; omega)) (Is.next ⟨m9, g1, by simp [hnx], by simp [hac], g2, g3, g4, fun j hj => ?_, fun j hj => ?_, ⟨row, ?_, g5⟩, ?_⟩))))
      · exact List.getElem?_append_left (by omega)
      · exact List.getElem?_append_left (by omega)
      · subst hnx; exact List.getElem?_concat_length
      · subst hac; exact List.getElem?_concat_length
  · rintro ⟨nx1, ac1, s1, m1⟩ ⟨m9, g1, g2, g3, g4, g5, g6, g7, g8, g9, g10⟩
    simp only at g1 g2 g3 g4 g5 g6 g7 g8 g9 g10
    have hlen1 : i + 1 ≤ s1.length := by rw [g1, List.length_append]; omega
    have hpre : ∀ (j : Nat) (T : List Int), j < i → s1[j]? = some T → sets[j]? = some T := by
      intro j T hj hT
      rw [g1, List.getElem?_append_left (by omega)] at hT
      exact hT
    have hSi1 : s1[i]? = some S := by rw [g1]; exact get_app hSg
    refine Is.bnq (chk_succ (by omega)) (Is.next ⟨⟨i + 1, rfl, hlen1, g2, g3, g4, by show s1[0]? = _; rw [g1]; exact get_app hzero, g5, g6, fun j T hj hT => ?_, fun j T hj hT => ?_⟩, by show 501 - ((i + 1 : Nat) : Int).toNat < 501 - ((i : Nat) : Int).toNat; omega⟩)
    · rcases Nat.lt_or_eq_of_le (Nat.le_of_lt_succ hj) with hlt | rfl
      · obtain ⟨r, h1, h2⟩ := hrow j T hlt (hpre j T hlt hT)
        refine ⟨r, by rw [← h1]; exact g7 j hlt, ?_⟩
        show RowOk n fb s1 T r
        rw [g1]
        exact h2.app m9
      · have hT : s1[j]? = some T := hT
        rw [hSi1] at hT
        rw [← Option.some.inj hT]
        exact g9
    · rcases Nat.lt_or_eq_of_le (Nat.le_of_lt_succ hj) with hlt | rfl
      · rw [← hacc j T hlt (hpre j T hlt hT)]
        exact g8 j hlt
      · have hT : s1[j]? = some T := hT
        rw [hSi1] at hT
        rw [← Option.some.inj hT]
        exact g10
end
theorem okarc {n : T_NFA} (ok : okT_NFA n) : n.Arcs.length ≤ 9223372036854775807 ∧ n.Accept.length ≤ 9223372036854775807 ∧ ∀ a ∈ n.Arcs, W4 a.Set := by
  obtain ⟨_, _, h3, h4⟩ := ok
  refine ⟨mlen _ h3.2, mlen _ h4.2, fun a ha => ?_⟩
  obtain ⟨_, _, h⟩ := h3.1 a ha
  exact w4_of h.2
theorem law_det (x0 : T_NFA) (ok0 : okT_NFA x0) (x1 : Str) (ok1 : (fun s : Str => s.length ≤ maxLen) x1) : M.law10_DfaDeterminize x0 x1 = some true := by
  obtain ⟨k1, k2, k3⟩ := okarc ok0
  refine Is.eq ?_
  unfold M.law10_DfaDeterminize
  refine Is.bnd (P := fun b => b = false → x0.Arcs.length ≤ 16 ∧ x1.length ≤ 30) ?_ fun b hb => Is.cnd (fun _ => Is.bnq awake_true (Is.pure rfl)) (fun h => ?_)
  · refine Is.bnd (P := fun b => b = true → x0.Arcs.length ≤ 16) ?_ fun b hb => Is.cnd (fun _ => Is.pure (by simp)) (fun h => Is.pure fun h2 => ⟨hb (by simpa using h), by have := of_decide_eq_false h2; omega⟩)
    unfold M.law10_few
    refine Is.bnd (P := fun b => b = true → x0.Arcs.length ≤ 16) ?_ fun b hb => Is.pure hb
    exact Is.dcd (fun _ => Is.dcd (fun h => Is.pure fun _ => by omega) (fun _ => Is.pure (by simp))) (fun _ => Is.pure (by simp))
  obtain ⟨h1, h2⟩ := hb h
  obtain ⟨v, hv, hv2⟩ := validN_is k1 k2
  obtain ⟨v', hv', hv2'⟩ := refValidN_is k1 k2
  by_cases hV : VN x0
  · have hn := hV.fit (by omega) k3
    obtain ⟨r, hr, hr2⟩ := det_ok hn (by omega)
    obtain ⟨q, hq, hq2⟩ := refDet_ok hn (by omega)
    refine Is.bnq hr (Is.bnq hq ?_)
    rcases hr2 with ⟨rfl, hl⟩ | ⟨r1, hf, hd⟩
    · rcases hq2 with ⟨q1, _⟩ | ⟨_, hf⟩
      · refine Is.cf (by rw [q1]; rfl) (Is.ct rfl (Is.bnq (x := true) (bind_of awake_true rfl) (Is.pure rfl)))
      · exact (lim_fin hl hf).elim
    · rcases hq2 with ⟨_, hl⟩ | ⟨q1, _⟩
      · exact (lim_fin hl hf).elim
      · refine Is.cf (by rw [q1, r1]; rfl) (Is.cf (by rw [r1]; rfl) (Is.bnq (x := true) (bind_of awake_true ?_) (Is.pure rfl)))
        have hdo := hd.1
        obtain ⟨b1, hb1, hb2⟩ := refValid_is (d := r.1) ⟨by have := hdo.cls; omega, by have := hdo.max; omega, fun x hx => by
          have := (hdo.row x hx).1
          have hc : cols r.1 < 9223372036854775807 := by
            obtain ⟨y, hy, hy2⟩ : ∃ y ∈ r.1.Next, y.length = cols r.1 := ⟨x, hx, this⟩
            exact Nat.lt_of_le_of_lt (hd.2.2) (by decide)
          omega, by have := hdo.acc; have := hdo.max; omega⟩
        obtain rfl : b1 = true := hb2.2 hdo
        have e1 := Run_eq hdo (w := x1) (by omega)
        rw [hd.2.1] at e1
        have e2 := refRun_ok hn (s := x1) (by omega)
        exact bind_of hb1 (bind_of e1 (bind_of e2 (by simp)))
  · have f1 : v = false := by
      cases v
      · rfl
      · exact absurd (hv2.1 rfl) hV
    have f2 : v' = false := by
      cases v'
      · rfl
      · exact absurd (hv2'.1 rfl) hV
    subst f1 f2
    have e1 : M.dfa_Determinize x0 = some (⟨[], [], []⟩, 1) := by unfold M.dfa_Determinize; rw [hv]; rfl
    have e2 : M.ref10_Determinize x0 = some (⟨[], [], []⟩, 1) := by unfold M.ref10_Determinize; rw [hv']; rfl
    exact Is.bnq e1 (Is.bnq e2 (Is.cf rfl (Is.ct rfl (Is.bnq (x := true) (bind_of awake_true rfl) (Is.pure rfl)))))
end Go.Proofs.Ytogpainomdfpnaa
