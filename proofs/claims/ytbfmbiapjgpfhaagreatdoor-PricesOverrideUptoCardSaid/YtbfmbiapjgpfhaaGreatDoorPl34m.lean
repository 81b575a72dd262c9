/- Plain facts on layer 34: what Format writes, Parse reads back. -/
import Derived.Test.YtbfmbiapjgpfhaaGreatDoorPl34l
set_option linter.unusedVariables false
set_option linter.unusedSimpArgs false
namespace Go.Proofs.YtbfmbiapjgpfhaaGreatDoor
open Go.Lx

/-! ### the lines of a text -/
def lineL (ws : List Str) (u n : Int) : List (List Str) := if n = u then [] else [ws ++ [numW n]]
def oneL (w : Str) : List Int → List Str → List (List Str)
  | n :: ns, t :: ts => lineL [w, t] 10 n ++ oneL w ns ts
  | _, _ => []
def rowL (terms : List Str) (i : Nat) : Nat → List Int → List (List Str)
  | _, [] => []
  | j, n :: ns => (if i = j then [] else lineL [repW, terms.getD i [], terms.getD j []] 15 n) ++ rowL terms i (j + 1) ns
def repL (terms : List Str) : Nat → List (List Int) → List (List Str)
  | _, [] => []
  | i, r :: rs => rowL terms i 0 r ++ repL terms (i + 1) rs
def formatL (p : T_Prices) (terms : List Str) : List (List Str) := oneL insW p.Insert terms ++ (oneL delW p.Delete terms ++ (repL terms 0 p.Replace ++ (lineL [swpW] 12 p.Swap ++ lineL [unkW] 8 p.Unknown)))
theorem txt_line (ws : List Str) (u n : Int) : txtB (lineL ws u n) = lineT ws u n := by
  unfold lineL lineT; split <;> simp [txtB]
theorem txt_one (w : Str) : ∀ (ns : List Int) (ts : List Str), txtB (oneL w ns ts) = oneT w ns ts
  | [], ts => by unfold oneL oneT; rfl
  | n :: ns, [] => rfl
  | n :: ns, t :: ts => by rw [oneL, oneT, txt_app, txt_line, txt_one w ns ts]
theorem txt_row (terms : List Str) (i : Nat) : ∀ (r : List Int) (j : Nat), txtB (rowL terms i j r) = rowT terms i j r
  | [], j => rfl
  | n :: r, j => by
    rw [rowL, rowT, txt_app, txt_row terms i r]
    split
    · rfl
    · rw [txt_line]
theorem txt_rep (terms : List Str) : ∀ (rs : List (List Int)) (i : Nat), txtB (repL terms i rs) = repT terms i rs
  | [], i => rfl
  | r :: rs, i => by rw [repL, repT, txt_app, txt_row, txt_rep terms rs]
theorem txt_format (p : T_Prices) (terms : List Str) : txtB (formatL p terms) = formatB p terms := by
  unfold formatL formatB
  simp only [txt_app, txt_one, txt_rep, txt_line]
/-! ### words -/
theorem dig_ok {c : UInt8} (h : digB c = true) : okC c = true := by
  have : ∀ n : Nat, n < 256 → (!digB (UInt8.ofNat n) || okC (UInt8.ofNat n)) = true := by decide +kernel
  have := this c.toNat (UInt8.toNat_lt c)
  rw [UInt8.ofNat_toNat, h] at this; exact this
theorem id_ok {c : UInt8} (h : idB c = true) : okC c = true := by
  have : ∀ n : Nat, n < 256 → (!idB (UInt8.ofNat n) || okC (UInt8.ofNat n)) = true := by decide +kernel
  have := this c.toNat (UInt8.toNat_lt c)
  rw [UInt8.ofNat_toNat, h] at this; exact this
theorem numT_pos : ∀ n : Nat, n < 1001 → numT n ≠ [] := by decide +kernel
theorem num_okW {n : Int} (h : PrOk n) : okW (numW n) := by
  unfold numW
  rcases h with rfl | ⟨h0, h1⟩
  · exact ⟨by decide, by decide⟩
  · rw [if_neg (by omega)]
    refine ⟨numT_pos _ (by omega), ?_⟩
    have := (num_all n.toNat (by omega)).2.2.2
    rw [List.all_eq_true] at this ⊢
    exact fun c hc => dig_ok (this c hc)
theorem name_okW {s : Str} (h : nameB s = true) : okW s := by
  unfold nameB at h
  simp only [Bool.and_eq_true] at h
  refine ⟨fun e => ?_, ?_⟩
  · subst e; exact absurd h.1.1.2 (by decide)
  · have := h.2
    rw [List.all_eq_true] at this ⊢
    exact fun c hc => id_ok (this c hc)
theorem fresh_at {l : List Str} (h : freshB [] l = true) : ∀ i, i ≤ l.length → freshB (l.take i) (l.drop i) = true
  | 0, _ => h
  | i + 1, hi => by
    have ih := fresh_at h i (by omega)
    rw [freshB_step (by omega)] at ih
    simp only [Bool.and_eq_true] at ih
    exact ih.2
theorem names_at {l : List Str} (h : namesB l = true) {i : Nat} (hi : i < l.length) : okW l[i] ∧ idxB l l[i] = some i := by
  unfold namesB at h
  rw [Bool.and_eq_true] at h
  have h1 := fresh_at h.2 i (by omega)
  rw [freshB_step hi] at h1
  simp only [Bool.and_eq_true] at h1
  refine ⟨name_okW h1.1.1, ?_⟩
  have h2 := h1.1.2
  unfold idxB at h2 ⊢
  conv => lhs; arg 2; rw [← List.take_append_drop i l, List.drop_eq_getElem_cons hi]
  rw [List.findIdx?_append, Option.isNone_iff_eq_none.1 h2, Option.none_or, List.findIdx?_cons, if_pos (by simp), Option.map_some, List.length_take]
  congr 1; omega
theorem names_get {l : List Str} (h : namesB l = true) {i : Nat} (hi : i < l.length) : okW (l.getD i []) ∧ idxB l (l.getD i []) = some i := by
  have e : l.getD i [] = l[i] := by simp [List.getD_eq_getElem?_getD, hi]
  rw [e]; exact names_at h hi
theorem kw_ok : okW insW ∧ okW delW ∧ okW repW ∧ okW swpW ∧ okW unkW := ⟨⟨by decide, by decide⟩, ⟨by decide, by decide⟩, ⟨by decide, by decide⟩, ⟨by decide, by decide⟩, ⟨by decide, by decide⟩⟩
theorem ws_line {ws : List Str} {u n : Int} (h : ∀ w ∈ ws, okW w) (hn : PrOk n) : wsOk (lineL ws u n) := by
  unfold lineL
  split
  · intro x hx; cases hx
  · intro x hx
    rw [List.mem_singleton.1 hx]
    refine ⟨by simp, fun w hw => ?_⟩
    rcases List.mem_append.1 hw with hw | hw
    · exact h w hw
    · rw [List.mem_singleton.1 hw]; exact num_okW hn
theorem ws_app {a b : List (List Str)} (ha : wsOk a) (hb : wsOk b) : wsOk (a ++ b) := fun x hx => (List.mem_append.1 hx).elim (ha x) (hb x)
theorem ws_nil : wsOk [] := fun x hx => by cases hx
theorem ws_one {w : Str} (hw : okW w) : ∀ {ns : List Int} {ts : List Str}, (∀ n ∈ ns, PrOk n) → (∀ t ∈ ts, okW t) → wsOk (oneL w ns ts)
  | [], ts, _, _ => by unfold oneL; exact ws_nil
  | n :: ns, [], _, _ => ws_nil
  | n :: ns, t :: ts, h1, h2 => by
    rw [oneL]
    refine ws_app (ws_line (fun x hx => ?_) (h1 n (by simp))) (ws_one hw (fun x hx => h1 x (List.mem_cons_of_mem _ hx)) (fun x hx => h2 x (List.mem_cons_of_mem _ hx)))
    rcases List.mem_cons.1 hx with rfl | hx
    · exact hw
    · rw [List.mem_singleton.1 hx]; exact h2 t (by simp)
theorem ws_row {terms : List Str} {i : Nat} (hi : okW (terms.getD i [])) (ht : ∀ j, j < terms.length → okW (terms.getD j [])) : ∀ {r : List Int} {j : Nat}, j + r.length ≤ terms.length → (∀ n ∈ r, PrOk n) → wsOk (rowL terms i j r)
  | [], j, _, _ => ws_nil
  | n :: r, j, hl, h => by
    rw [rowL]
    simp only [List.length_cons] at hl
    refine ws_app ?_ (ws_row hi ht (by omega) (fun x hx => h x (List.mem_cons_of_mem _ hx)))
    split
    · exact ws_nil
    · refine ws_line (fun x hx => ?_) (h n (by simp))
      rcases List.mem_cons.1 hx with rfl | hx
      · exact kw_ok.2.2.1
      · rcases List.mem_cons.1 hx with rfl | hx
        · exact hi
        · rw [List.mem_singleton.1 hx]; exact ht j (by omega)
theorem ws_rep {terms : List Str} (ht : ∀ j, j < terms.length → okW (terms.getD j [])) : ∀ {rs : List (List Int)} {i : Nat}, i + rs.length ≤ terms.length → (∀ r ∈ rs, r.length = terms.length ∧ ∀ n ∈ r, PrOk n) → wsOk (repL terms i rs)
  | [], i, _, _ => ws_nil
  | r :: rs, i, hl, h => by
    rw [repL]
    simp only [List.length_cons] at hl
    have h0 := h r (by simp)
    exact ws_app (ws_row (ht i (by omega)) ht (by omega) h0.2) (ws_rep ht (by omega) (fun x hx => h x (List.mem_cons_of_mem _ hx)))
theorem ws_format {p : T_Prices} {terms : List Str} (hn : namesB terms = true) (hv : VP p terms.length) : wsOk (formatL p terms) := by
  have ht : ∀ j, j < terms.length → okW (terms.getD j []) := fun j hj => (names_get hn hj).1
  have ht2 : ∀ t ∈ terms, okW t := fun t h => by
    obtain ⟨k, hk, rfl⟩ := List.getElem_of_mem h
    exact (names_at hn hk).1
  have hs := inB_pr0 hv.swp
  have hu := inB_pr hv.unk
  refine ws_app (ws_one kw_ok.1 (fun x hx => pr_of (hv.insP x hx)) ht2) (ws_app (ws_one kw_ok.2.1 (fun x hx => pr_of (hv.delP x hx)) ht2) (ws_app (ws_rep ht (by rw [hv.sh.rep]; omega) (fun r hr => ⟨hv.sh.row r hr, hv.repP r hr⟩)) (ws_app (ws_line (fun x hx => ?_) (.inr hs)) (ws_line (fun x hx => ?_) (pr_of hu)))))
  · rw [List.mem_singleton.1 hx]; exact kw_ok.2.2.2.1
  · rw [List.mem_singleton.1 hx]; exact kw_ok.2.2.2.2
/-! ### what the lines do -/
theorem numW_num {n : Int} (h : 0 ≤ n ∧ n ≤ 1000) : numB (numW n) = some n.toNat := by
  unfold numW
  rw [if_neg (by omega)]
  exact (num_all n.toNat (by omega)).2.1
theorem range_in {least v : Nat} {p : T_Prices} {f : Int → T_Prices} (h : least ≤ v ∧ v ≤ 1000) : rangeB least p v f = (0, f v) := by unfold rangeB; rw [if_pos h]
theorem run_line {terms : List Str} {p q : T_Prices} {ws : List Str} {r : List (List Str)} (h : lineB terms p ws = (0, q)) : runL terms p (ws :: r) = runL terms q r := by
  rw [runL, h, if_pos rfl]
theorem line_one {terms : List Str} (hn : namesB terms = true) {p : T_Prices} {i : Nat} (hi : i < terms.length) {n : Int} (h : 1 ≤ n ∧ n ≤ 1000) :
    lineB terms p [insW, terms[i], numW n] = (0, ⟨p.Insert.set i n, p.Delete, p.Replace, p.Swap, p.Unknown⟩) ∧ lineB terms p [delW, terms[i], numW n] = (0, ⟨p.Insert, p.Delete.set i n, p.Replace, p.Swap, p.Unknown⟩) := by
  have e : ((n.toNat : Nat) : Int) = n := by omega
  have hr : 1 ≤ n.toNat ∧ n.toNat ≤ 1000 := by omega
  have hw := numW_num (n := n) (by omega)
  have hx := (names_at hn hi).2
  constructor
  · rw [line3, if_pos rfl]
    unfold oneB
    rw [hw, hx]
    simp only
    rw [range_in hr, e]
  · rw [line3, if_neg (by decide), if_pos rfl]
    unfold oneB
    rw [hw, hx]
    simp only
    rw [range_in hr, e]
theorem set_mid {α : Type} {A B : List α} {x y : α} {i : Nat} (h : A.length = i) : (A ++ x :: B).set i y = A ++ y :: B := by
  subst h
  simp
theorem rep_succ {n i : Nat} (h : i < n) (x : Int) : List.replicate (n - i) x = x :: List.replicate (n - (i + 1)) x := by
  rw [show n - i = n - (i + 1) + 1 by omega, List.replicate_succ]
theorem run_ins {terms : List Str} (hn : namesB terms = true) {ns : List Int} (hl : ns.length = terms.length) (hv : ∀ x ∈ ns, 1 ≤ x ∧ x ≤ 1000) : ∀ (m i : Nat) (p : T_Prices), i + m = terms.length → p.Insert = ns.take i ++ List.replicate (terms.length - i) 10 →
    runL terms p (oneL insW (ns.drop i) (terms.drop i)) = some ⟨ns, p.Delete, p.Replace, p.Swap, p.Unknown⟩
  | 0, i, p, hm, h => by
    have e : oneL insW (ns.drop i) (terms.drop i) = [] := by rw [List.drop_eq_nil_iff.2 (by omega)]; unfold oneL; rfl
    rw [e, runL]
    rw [List.take_of_length_le (by omega), show terms.length - i = 0 by omega] at h
    simp only [List.replicate_zero, List.append_nil] at h
    rw [← h]
  | m + 1, i, p, hm, h => by
    have hi : i < ns.length := by omega
    have hi2 : i < terms.length := by omega
    rw [List.drop_eq_getElem_cons hi, List.drop_eq_getElem_cons hi2, oneL, runL_app]
    rw [rep_succ hi2] at h
    unfold lineL
    by_cases h10 : ns[i] = 10
    · rw [if_pos h10, runL, Option.bind_some]
      refine run_ins hn hl hv m (i + 1) p (by omega) ?_
      rw [h, List.take_succ_eq_append_getElem hi, h10, List.append_assoc]; rfl
    · rw [if_neg h10]
      rw [show ([insW, terms[i]] ++ [numW ns[i]]) = [insW, terms[i], numW ns[i]] from rfl, run_line (line_one hn hi2 (hv _ (List.getElem_mem hi))).1, runL, Option.bind_some]
      refine run_ins hn hl hv m (i + 1) _ (by omega) ?_
      show p.Insert.set i ns[i] = _
      rw [h, set_mid (by rw [List.length_take]; omega), List.take_succ_eq_append_getElem hi, List.append_assoc]; rfl
theorem run_del {terms : List Str} (hn : namesB terms = true) {ns : List Int} (hl : ns.length = terms.length) (hv : ∀ x ∈ ns, 1 ≤ x ∧ x ≤ 1000) : ∀ (m i : Nat) (p : T_Prices), i + m = terms.length → p.Delete = ns.take i ++ List.replicate (terms.length - i) 10 →
    runL terms p (oneL delW (ns.drop i) (terms.drop i)) = some ⟨p.Insert, ns, p.Replace, p.Swap, p.Unknown⟩
  | 0, i, p, hm, h => by
    have e : oneL delW (ns.drop i) (terms.drop i) = [] := by rw [List.drop_eq_nil_iff.2 (by omega)]; unfold oneL; rfl
    rw [e, runL]
    rw [List.take_of_length_le (by omega), show terms.length - i = 0 by omega] at h
    simp only [List.replicate_zero, List.append_nil] at h
    rw [← h]
  | m + 1, i, p, hm, h => by
    have hi : i < ns.length := by omega
    have hi2 : i < terms.length := by omega
    rw [List.drop_eq_getElem_cons hi, List.drop_eq_getElem_cons hi2, oneL, runL_app]
    rw [rep_succ hi2] at h
    unfold lineL
    by_cases h10 : ns[i] = 10
    · rw [if_pos h10, runL, Option.bind_some]
      refine run_del hn hl hv m (i + 1) p (by omega) ?_
      rw [h, List.take_succ_eq_append_getElem hi, h10, List.append_assoc]; rfl
    · rw [if_neg h10]
      rw [show ([delW, terms[i]] ++ [numW ns[i]]) = [delW, terms[i], numW ns[i]] from rfl, run_line (line_one hn hi2 (hv _ (List.getElem_mem hi))).2, runL, Option.bind_some]
      refine run_del hn hl hv m (i + 1) _ (by omega) ?_
      show p.Delete.set i ns[i] = _
      rw [h, set_mid (by rw [List.length_take]; omega), List.take_succ_eq_append_getElem hi, List.append_assoc]; rfl
theorem getM {A B : List (List Int)} {x : List Int} {i : Nat} (h : A.length = i) : (A ++ x :: B).getD i [] = x := by
  subst h
  simp [List.getD_eq_getElem?_getD]
theorem line_two {terms : List Str} (hn : namesB terms = true) {p : T_Prices} {i j : Nat} (hi : i < terms.length) (hj : j < terms.length) (hij : i ≠ j) {n : Int} (h : n = -1 ∨ (1 ≤ n ∧ n ≤ 1000)) :
    lineB terms p [repW, terms.getD i [], terms.getD j [], numW n] = (0, setRep p i j n) := by
  have hx := (names_get hn hi).2
  have hy := (names_get hn hj).2
  rw [line4, if_pos rfl]
  unfold twoB
  rw [hx, hy]
  simp only
  rcases h with rfl | h
  · have e1 : numW (-1) = nevW := rfl
    have e2 : numB nevW = none := nev_none
    rw [e1, e2, if_neg (fun h => h.2 rfl), if_neg hij]
  · rw [numW_num (by omega), if_neg (fun h => by cases h.1), if_neg hij]
    simp only
    rw [range_in (by omega), show ((n.toNat : Nat) : Int) = n by omega]
theorem rowP_at {n i j : Nat} (hj : j < n) : (rowP n i).drop j = (if i = j then (0 : Int) else 15) :: (rowP n i).drop (j + 1) := by
  have hl : j < (rowP n i).length := by simp [rowP]; exact hj
  have e : (rowP n i)[j]'hl = if i = j then (0 : Int) else 15 := by simp only [rowP, List.getElem_set, List.getElem_replicate]
  rw [List.drop_eq_getElem_cons hl, e]
theorem run_row {terms : List Str} (hn : namesB terms = true) {i : Nat} (hi : i < terms.length) {r : List Int} (hl : r.length = terms.length) (hv : ∀ k, k < terms.length → entB i k (r.getD k 0) = true) {A B : List (List Int)} (hA : A.length = i) : ∀ (m j : Nat) (p : T_Prices), j + m = terms.length → p.Replace = A ++ (r.take j ++ (rowP terms.length i).drop j) :: B →
    runL terms p (rowL terms i j (r.drop j)) = some ⟨p.Insert, p.Delete, A ++ r :: B, p.Swap, p.Unknown⟩
  | 0, j, p, hm, h => by
    have hlen : (rowP terms.length i).length = terms.length := by simp [rowP]
    rw [List.drop_eq_nil_iff.2 (by omega), rowL, runL]
    rw [List.take_of_length_le (by omega), List.drop_eq_nil_iff.2 (by omega), List.append_nil] at h
    rw [← h]
  | m + 1, j, p, hm, h => by
    have hj : j < r.length := by omega
    have hj2 : j < terms.length := by omega
    have he := hv j hj2
    rw [getN hj] at he
    rw [rowP_at hj2] at h
    rw [List.drop_eq_getElem_cons hj, rowL, runL_app]
    by_cases hij : i = j
    · rw [if_pos hij, runL, Option.bind_some]
      refine run_row hn hi hl hv hA m (j + 1) p (by omega) ?_
      unfold entB at he
      rw [if_pos hij] at he h
      have he : r[j] = 0 := by simpa using he
      rw [h, List.take_succ_eq_append_getElem hj, he, List.append_assoc]; rfl
    · rw [if_neg hij]
      rw [if_neg hij] at h
      unfold entB at he
      rw [if_neg hij, Bool.or_eq_true] at he
      have he : r[j] = -1 ∨ (1 ≤ r[j] ∧ r[j] ≤ 1000) := he.imp (fun h => by simpa using h) inB_pr
      unfold lineL
      by_cases h15 : r[j] = 15
      · rw [if_pos h15, runL, Option.bind_some]
        refine run_row hn hi hl hv hA m (j + 1) p (by omega) ?_
        rw [h, List.take_succ_eq_append_getElem hj, h15, List.append_assoc]; rfl
      · rw [if_neg h15]
        rw [show ([repW, terms.getD i [], terms.getD j []] ++ [numW r[j]]) = [repW, terms.getD i [], terms.getD j [], numW r[j]] from rfl, run_line (line_two hn hi hj2 hij he), runL, Option.bind_some]
        refine run_row hn hi hl hv hA m (j + 1) _ (by omega) ?_
        show p.Replace.set i ((p.Replace.getD i []).set j r[j]) = _
        rw [h, getM hA, set_mid hA, set_mid (by rw [List.length_take]; omega), List.take_succ_eq_append_getElem hj, List.append_assoc]; rfl
theorem run_rep {terms : List Str} (hn : namesB terms = true) {rs : List (List Int)} (hl : rs.length = terms.length) (hr : ∀ r ∈ rs, r.length = terms.length) (hv : ∀ i k, i < terms.length → k < terms.length → entB i k ((rs.getD i []).getD k 0) = true) : ∀ (m i : Nat) (p : T_Prices), i + m = terms.length → p.Replace = rs.take i ++ ((List.range terms.length).map (rowP terms.length)).drop i →
    runL terms p (repL terms i (rs.drop i)) = some ⟨p.Insert, p.Delete, rs, p.Swap, p.Unknown⟩
  | 0, i, p, hm, h => by
    rw [List.drop_eq_nil_iff.2 (by omega), repL, runL]
    rw [List.take_of_length_le (by omega), List.drop_eq_nil_iff.2 (by simp; omega), List.append_nil] at h
    rw [← h]
  | m + 1, i, p, hm, h => by
    have hi : i < rs.length := by omega
    have hi2 : i < terms.length := by omega
    have e : rs.getD i [] = rs[i] := by simp [List.getD_eq_getElem?_getD, hi]
    rw [List.drop_eq_getElem_cons (show i < ((List.range terms.length).map (rowP terms.length)).length by simp; exact hi2)] at h
    rw [List.drop_eq_getElem_cons hi, repL, runL_app]
    have h1 := run_row hn hi2 (hr _ (List.getElem_mem hi)) (fun k hk => by have := hv i k hi2 hk; rwa [e] at this) (A := rs.take i) (B := ((List.range terms.length).map (rowP terms.length)).drop (i + 1)) (by rw [List.length_take]; omega) terms.length 0 p (by omega) (by rw [h]; simp)
    rw [List.drop_zero] at h1
    rw [h1, Option.bind_some]
    have h2 := run_rep hn hl hr hv m (i + 1) ⟨p.Insert, p.Delete, rs.take i ++ rs[i] :: ((List.range terms.length).map (rowP terms.length)).drop (i + 1), p.Swap, p.Unknown⟩ (by omega) (by rw [List.take_succ_eq_append_getElem hi, List.append_assoc]; rfl)
    exact h2
theorem run_format {p : T_Prices} {terms : List Str} (hn : namesB terms = true) (hv : VP p terms.length) : runL terms (defP terms.length) (formatL p terms) = some p := by
  have h1 := run_ins hn hv.sh.ins hv.insP terms.length 0 (defP terms.length) (by omega) (by simp [defP])
  have h2 := run_del hn hv.sh.del hv.delP terms.length 0 ⟨p.Insert, (defP terms.length).Delete, (defP terms.length).Replace, (defP terms.length).Swap, (defP terms.length).Unknown⟩ (by omega) (by simp [defP])
  have h3 := run_rep hn hv.sh.rep hv.sh.row (fun i k => hv.rep i k) terms.length 0 ⟨p.Insert, p.Delete, (defP terms.length).Replace, (defP terms.length).Swap, (defP terms.length).Unknown⟩ (by omega) (by simp [defP])
  rw [List.drop_zero] at h1 h2 h3
  rw [List.drop_zero] at h1 h2
  have hs := inB_pr0 hv.swp
  have hu := inB_pr hv.unk
  have h4 : runL terms ⟨p.Insert, p.Delete, p.Replace, 12, 8⟩ (lineL [swpW] 12 p.Swap) = some ⟨p.Insert, p.Delete, p.Replace, p.Swap, 8⟩ := by
    unfold lineL
    by_cases h : p.Swap = 12
    · rw [if_pos h, runL, h]
    · rw [if_neg h]
      rw [show ([swpW] ++ [numW p.Swap]) = [swpW, numW p.Swap] from rfl, run_line (q := ⟨p.Insert, p.Delete, p.Replace, p.Swap, 8⟩), runL]
      rw [line2, if_pos rfl, numW_num hs]
      simp only
      rw [range_in (by omega), show ((p.Swap.toNat : Nat) : Int) = p.Swap by omega]
  have h5 : runL terms ⟨p.Insert, p.Delete, p.Replace, p.Swap, 8⟩ (lineL [unkW] 8 p.Unknown) = some p := by
    unfold lineL
    by_cases h : p.Unknown = 8
    · rw [if_pos h, runL, ← h]
    · rw [if_neg h]
      rw [show ([unkW] ++ [numW p.Unknown]) = [unkW, numW p.Unknown] from rfl, run_line (q := p), runL]
      rw [line2, if_neg (by decide), if_pos rfl, numW_num (by omega)]
      simp only
      rw [range_in (by omega), show ((p.Unknown.toNat : Nat) : Int) = p.Unknown by omega]
  unfold formatL
  rw [runL_app, h1, Option.bind_some, runL_app, h2, Option.bind_some, runL_app, h3, Option.bind_some, runL_app]
  show (runL terms ⟨p.Insert, p.Delete, p.Replace, 12, 8⟩ (lineL [swpW] 12 p.Swap)).bind _ = _
  rw [h4, Option.bind_some, h5]
theorem parse_format {p : T_Prices} {terms : List Str} (hn : namesB terms = true) (hv : VP p terms.length) : parseB (formatB p terms) terms = (p, 0, 0) := by
  unfold parseB
  rw [if_pos hn, ← txt_format, lines_txt (ws_format hn hv), goB_run _ (ws_format hn hv) (run_format hn hv), goB_cons, if_pos (by rfl), goB]
/-! ### the length of a text -/
theorem format_len {p : T_Prices} {terms : List Str} (hT : terms.length < 20) (ht : ∀ t ∈ terms, t.length ≤ 30) (hv : VP p terms.length) : (formatB p terms).length ≤ 50000 := by
  obtain ⟨_, _, rfl, l1⟩ := f_one hT ht (w := insW) (by decide) hv.sh.ins (fun x hx => pr_of (hv.insP x hx)) (b0 := []) (by simp)
  obtain ⟨_, _, rfl, l2⟩ := f_one hT ht (w := delW) (by decide) hv.sh.del (fun x hx => pr_of (hv.delP x hx)) (b0 := []) (by simp)
  obtain ⟨_, _, rfl, l3⟩ := f_rep hT ht hv.sh.rep hv.sh.row hv.repP (b0 := []) (by simp)
  have hs := inB_pr0 hv.swp
  have hu := inB_pr hv.unk
  have s1 := lineT_len (u := 12) (len1 (w := swpW) (n := p.Swap) (.inr hs) (by decide))
  have s2 := lineT_len (u := 8) (len1 (w := unkW) (n := p.Unknown) (pr_of hu) (by decide))
  unfold formatB
  simp only [List.nil_append, bytes_len, List.length_nil, List.length_append] at l1 l2 l3 ⊢
  omega
theorem sh_small {p : T_Prices} {n : Nat} (h : Sh p n ∨ p = zeroP) (hn : n ≤ 1000) : p.Insert.length ≤ 1073741824 ∧ ∀ r ∈ p.Replace, r.length ≤ 1073741824 := by
  rcases h with h | rfl
  · exact ⟨by rw [h.ins]; omega, fun r hr => by rw [h.row r hr]; omega⟩
  · exact ⟨by decide, fun r hr => by cases hr⟩
theorem sh_parse {s : Str} {terms : List Str} : Sh (parseB s terms).1 terms.length ∨ (parseB s terms).1 = zeroP := by
  unfold parseB
  split
  · exact sh_go (sh_def terms.length)
  · exact .inr rfl
theorem law_roundTrip (x0 : T_Prices) (ok0 : okT_Prices x0) (x1 : List Str) (ok1 : (∀ x ∈ x1, x.length ≤ maxLen) ∧ x1.length ≤ maxLen) (x2 : Str) (ok2 : x2.length ≤ maxLen) : M.law34_PricesRoundTrip x0 x1 x2 = some true := by
  refine Is.eq ?_
  unfold M.law34_PricesRoundTrip
  refine Is.bnd (P := fun b : Bool => b = false → (x0.Insert.length ≤ 10 ∧ x0.Delete.length ≤ 10 ∧ x0.Replace.length ≤ 10 ∧ ∀ r ∈ x0.Replace, r.length ≤ 10) ∧ (x1.length ≤ 8 ∧ ∀ s ∈ x1, s.length ≤ 30) ∧ x2.length ≤ 500) (Is.bnd (few_is (m := 10) (few_ok ok0)) fun b hb => Is.cnd (fun _ => Is.pure fun h => by cases h) (fun e => Is.bnd (short_is (max_le ok1.2)) fun b2 hb2 => Is.cnd (fun _ => Is.pure fun h => by cases h) (fun e2 => Is.pure fun h => ?_))) fun b hb => Is.cnd (fun _ => Is.bnq awake_true (Is.pure rfl)) (fun e => ?_)
  · exact ⟨hb (by simpa using e), hb2 (by simpa using e2), by have := of_decide_eq_false h; omega⟩
  · obtain ⟨⟨h1, h2, h3, h4⟩, ⟨h5, h6⟩, h7⟩ := hb e
    have hr : ∀ r ∈ x0.Replace, r.length ≤ 1073741824 := fun r hr => by have := h4 r hr; omega
    have h8 : ∀ x ∈ x1, x.length ≤ 1073741824 := fun x hx => by have := h6 x hx; omega
    obtain ⟨g1, g2⟩ := sh_small (sh_parse (s := x2) (terms := x1)) (by omega)
    refine Is.bnq (parse_ok (by omega) (by omega) h8) (Is.bnd (P := fun b => b = false) (Is.cnd (fun e => Is.bnq (valid_ok g1 g2) (Is.pure ?_)) (fun _ => Is.pure rfl)) ?_)
    · rw [valid_iff.2 (vp_parse (by omega) (of_beq_t e))]; rfl
    · rintro _ rfl
      refine Is.cf rfl (Is.bnq (format_ok (by omega) h6 (by omega) hr) ?_)
      unfold fmtB
      by_cases hc : namesB x1 = true ∧ validB x0 (x1.length : Int) = true
      · rw [if_pos hc]
        have hv := valid_iff.1 hc.2
        have hfl := format_len (by omega) h6 hv
        refine Is.cf rfl (Is.bnq (parse_ok (s := formatB x0 x1) (by omega) (by omega) h8) (Is.bnq (x := true) ?_ (Is.pure rfl)))
        rw [parse_format hc.1 hv]
        exact Is.eq (Is.bnq awake_true (Is.ct rfl (Is.ct rfl (Is.ct rfl (Is.bnq (same_sh hv.sh (by omega)) (Is.pure rfl))))))
      · rw [if_neg hc]
        exact Is.ct rfl (Is.bnq (x := true) (Is.eq (Is.bnq awake_true (Is.ct rfl (Is.pure rfl)))) (Is.pure rfl))
end Go.Proofs.YtbfmbiapjgpfhaaGreatDoor
