/- Plain facts on layer 10: Minimize; the laws DfaMinimizeKeeps and DfaClasses. -/
import Derived.Test.YtogpainomdfpnaaPl10i
import Derived.Test.YtogpainomdfpnaaPl10d
set_option linter.unusedVariables false
namespace Go.Proofs.Ytogpainomdfpnaa
open Go.Lx

theorem Canon.full {m : T_DFA} (h : Canon m) : Full m := by
  intro c hc
  rw [h.cols] at hc
  obtain ⟨b, hb, e, _⟩ := num_onto hc
  refine ⟨b, hb, ?_⟩
  have : clsF m b = numI (clsF m) b := by
    have h1 : clsF m b = ((List.range 256).map (numI (clsF m))).getD b 0 := by
      show m.Class.getD b 0 = _
      conv => lhs; rw [h.cls]
    rw [h1]; simp [List.getD_eq_getElem?_getD, hb]
  rw [this, numI, e]
theorem usedD_allok {d : T_DFA} (h : Ok d) {l : List Bool} (hl : ∀ s, s < (usedD d).Next.length → (l.getD s false = true ↔ Live (usedD d) (s : Int))) :
    Ok (prunedBy l (usedD d)) ∧ Full (prunedBy l (usedD d)) ∧ AllLive (prunedBy l (usedD d)) ∧ (∀ w, res (prunedBy l (usedD d)) 0 w = res d 0 w) := by
  have hu := usedD_ok h
  have hf := usedD_full h
  refine ⟨pr_ok hu, pr_full hu hf, fun s b hs hb h0 => ?_, fun w => ?_⟩
  · have hs' : inR (usedD d) s := by
      have : (prunedBy l (usedD d)).Next.length = (usedD d).Next.length := by simp [prunedBy]
      unfold inR at hs ⊢
      rw [this] at hs; exact hs
    exact pr_live hu hl hs' hb h0
  · rw [pr_res hu hl (zero_in hu), usedD_res h (zero_in h)]
theorem idx_map {f : Int → Int} {l : List Int} {v : Int} (h : v ∈ l.map f) : f (l.getD ((l.map f).idxOf v) 0) = v := by
  have hlt := List.idxOf_lt_length_of_mem h
  have e1 : (l.map f)[(l.map f).idxOf v]'hlt = v := by simp
  rw [List.getElem_map] at e1
  have hlt' : (l.map f).idxOf v < l.length := by simpa using hlt
  rw [List.getD_eq_getElem?_getD, List.getElem?_eq_getElem hlt']
  exact e1
theorem Minimize_is {d : T_DFA} (h : Ok d) (hacc : ∀ a ∈ d.Accept, a ≤ 9223372036854775807) :
    Is (M.dfa_Minimize d) (fun m => Canon m ∧ (∀ w, res m 0 w = res d 0 w) ∧ m.Next.length ≤ d.Next.length ∧ ∀ a ∈ m.Accept, a ≤ 9223372036854775807) := by
  unfold M.dfa_Minimize
  refine Is.bnq (used_eq h) (Is.bnd (pruned_is (usedD_ok h) (usedD_full h)) ?_)
  rintro _ ⟨lv, rfl, hlv⟩
  obtain ⟨hok, hf, hal, hres⟩ := usedD_allok h hlv
  have hacc' : ∀ a ∈ (prunedBy lv (usedD d)).Accept, a ≤ 9223372036854775807 := hacc
  have hnl : (prunedBy lv (usedD d)).Next.length = d.Next.length := by simp [prunedBy, usedD]
  simp only [← hres, ← hnl]
  clear hres hlv hnl hacc
  generalize prunedBy lv (usedD d) = e at *
  clear h d lv
  have hmax := hok.max
  refine Is.bnd (partition_is hok hf hal hacc') fun p hp => ?_
  refine Is.bnd (P := fun c => ∃ l, Rch e p l ∧ (∀ w, 0 ≤ walkN e 0 w → ∃ x ∈ l, gq p x = gq p (walkN e 0 w)) ∧ c = (List.range 256).map (numI (keyC e p l))) ?_ ?_
  · refine Is.bnd (reached_is hok hf hp hal) fun l ⟨hR, hRc⟩ => ?_
    have := parts_le hp hR.inr hR.nodup
    exact Is.bnq (classes_eq hok hp hR.inr (by omega)) (Is.pure ⟨l, hR, hRc, rfl⟩)
  rintro _ ⟨l, hR, hRc, rfl⟩
  refine Is.bnd (sample_is (keyC e p l)) fun bytes hB => ?_
  have hpos := hok.pos
  have hbl : bytes.length ≤ 256 := by rw [hB.len]; exact D_len _ 256
  refine Is.bnq (gq_idx hp (x := 0) (by omega) (by omega)) ?_
  refine Is.bnd (P := fun r => ∃ order, MC e p bytes order r.1 r.2 order.length []) ?_ ?_
  · refine Is.while (fun st => ∃ k : Nat, st.2.2.2.2 = (k : Int) ∧ MC e p bytes st.2.2.1 st.1 st.2.1 k [] ∧ NumMap (fun _ => True) id st.2.2.2.1 (st.2.2.1.map (gq p))) (fun st => e.Next.length - st.2.2.2.2.toNat) ⟨0, rfl, MC.start0 hpos, ?_⟩ (by simp only []; omega) ?_
    · exact ((NumMap.nil (P := fun _ => True) (enc := id)).new (fun _ _ _ _ e => e) (k := gq p 0) trivial (by simp)).2
    rintro ⟨rows, accs, order, m, _⟩ ⟨k, rfl, hM, hm⟩
    simp only [] at hM hm ⊢
    have hile := hM.ile
    have hle := parts_le hp hM.inr hM.nodup
    refine Is.dcd (fun hlt => ?_) fun hge => Is.stop ⟨order, ?_⟩
    rotate_left
    · have : k = order.length := by omega
      subst this; exact hM
    have hk : k < order.length := by omega
    refine Is.bnd (P := fun st => k + 1 ≤ st.2.2.1.length ∧ MC e p bytes st.2.2.1 st.1 st.2.1 (k + 1) [] ∧ NumMap (fun _ => True) id st.2.2.2 (st.2.2.1.map (gq p))) ?_ ?_
    · refine Is.bnq (mkM_nat (by omega)) (Is.bnd (P := fun st => k < st.1.length ∧ MC e p bytes st.1 rows accs k st.2.2 ∧ st.2.2.length = bytes.length ∧ NumMap (fun _ => True) id st.2.1 (st.1.map (gq p))) ?_ ?_)
      · refine Is.upto (fun c st => st.2.2.2 = (c : Int) ∧ k < st.1.length ∧ NumMap (fun _ => True) id st.2.1 (st.1.map (gq p)) ∧ ∃ done : List Int, done.length = c ∧ st.2.2.1 = done ++ List.replicate (bytes.length - c) 0 ∧ MC e p bytes st.1 rows accs k done) bytes.length (by omega) ⟨rfl, hk, hm, [], rfl, by simp, hM⟩ ?_ ?_
        · rintro c ⟨o2, m2, _, _⟩ hc ⟨rfl, hk2, hm2, done, hdl, rfl, hM2⟩
          simp only [] at hk2 hm2 hM2 ⊢
          have hle2 := parts_le hp hM2.inr hM2.nodup
          obtain ⟨b, hb, eb, _⟩ := hB.rep c hc
          have hx := hM2.inr _ (getD_mem (d := 0) hk2)
          have hrep : List.replicate (bytes.length - c) (0 : Int) = 0 :: List.replicate (bytes.length - (c + 1)) 0 := by
            rw [show bytes.length - c = (bytes.length - (c + 1)) + 1 by omega, List.replicate_succ]
          have hset : ∀ v u : Int, setL (done ++ v :: List.replicate (bytes.length - (c + 1)) 0) (c : Int) u = some ((done ++ [u]) ++ List.replicate (bytes.length - (c + 1)) 0) := by
            intro v u
            rw [setL_nat (by simp; omega), List.set_append, if_neg (by omega), hdl, Nat.sub_self, List.set_cons_zero, List.append_assoc]; rfl
          have hb2 : ((bytes.getD done.length 0).toNat) = b := by rw [hdl, eb]; rfl
          have hin := stepN_in hok (s := o2.getD k 0) ⟨by omega, hx.2⟩ hb
          have hent : ∀ v, EntM e p o2 (o2.getD k 0) v b → MC e p bytes o2 rows accs k (done ++ [v]) := fun v hv => hM2.old hk2 (by rw [hb2]; exact hv)
          refine Is.dt (by omega) (Is.bnd (P := fun st => k < st.1.length ∧ NumMap (fun _ => True) id st.2.1 (st.1.map (gq p)) ∧ ∃ done' : List Int, done'.length = c + 1 ∧ st.2.2 = done' ++ List.replicate (bytes.length - (c + 1)) 0 ∧ MC e p bytes st.1 rows accs k done') ?_ ?_)
          · refine Is.bnq (idx_D hc) (Is.bnq (idx_D hk2) (Is.bnq (x := stepN e (o2.getD k 0) b) (by rw [eb]; exact step_eq hok ⟨by omega, hx.2⟩ hb) ?_))
            rw [hrep]
            refine Is.bnq (hset 0 (-1)) (Is.dcd (fun h0 => Is.pure ⟨hk2, hm2, done ++ [-1], by simp [hdl], rfl, hent _ (.inl ⟨h0, rfl⟩)⟩) fun h0 => ?_)
            have h0 : 0 ≤ stepN e (o2.getD k 0) b := by omega
            refine Is.bnq (gq_idx hp h0 hin.2) (Is.bnd (P := fun r => k < r.1.length ∧ NumMap (fun _ => True) id r.2.1 (r.1.map (gq p)) ∧ MC e p bytes r.1 rows accs k (done ++ [r.2.2])) ?_ ?_)
            · by_cases hmem : gq p (stepN e (o2.getD k 0) b) ∈ o2.map (gq p)
              · obtain ⟨h1, h2⟩ := hm2.old trivial hmem
                simp only [id] at h1 h2
                rw [h1, h2]
                refine Is.cf rfl (Is.pure ⟨hk2, hm2, hent _ (.inr ⟨h0, _, rfl, ?_, ?_⟩)⟩)
                · have := List.idxOf_lt_length_of_mem hmem
                  simpa using this
                · exact idx_map hmem
              · obtain ⟨h1, h2⟩ := hm2.new (fun _ _ _ _ e => e) trivial hmem
                simp only [id] at h1 h2
                rw [h1]
                rw [List.length_map] at h2
                refine Is.ct rfl (Is.bnq (appM_ok (by simp; omega)) (Is.pure ⟨by simp; omega, by rw [List.map_append]; exact h2, ?_⟩))
                obtain ⟨w, hw⟩ := hM2.walk _ (getD_mem (d := 0) hk2)
                refine hM2.new hk2 (by rw [hb2]) h0 hin.2 ⟨w ++ [UInt8.ofNat b], ?_⟩ hmem
                have e1 : (UInt8.ofNat b).toNat = b := by simp; omega
                rw [walk_snoc, hw, e1]
            · rintro ⟨o3, m3, v⟩ ⟨g1, g2, g3⟩
              simp only [] at g1 g2 g3 ⊢
              refine Is.bnq (x := (done ++ [v]) ++ List.replicate (bytes.length - (c + 1)) 0) ?_ (Is.pure ⟨g1, g2, done ++ [v], by simp [hdl], rfl, g3⟩)
              have := hset (-1) v
              rwa [show done ++ -1 :: List.replicate (bytes.length - (c + 1)) 0 = (done ++ [-1]) ++ List.replicate (bytes.length - (c + 1)) 0 by simp] at this
          · rintro ⟨o3, m3, l3⟩ ⟨g1, g2, done', g3, g4, g5⟩
            exact Is.bnq (chk_succ (by omega)) (Is.next ⟨rfl, g1, g2, done', g3, g4, g5⟩)
        · rintro ⟨o2, m2, _, _⟩ ⟨rfl, hk2, hm2, done, hdl, rfl, hM2⟩
          simp only [] at hk2 hm2 hM2 ⊢
          refine Is.df (by omega) (Is.stop ?_)
          simp only [Nat.sub_self, List.replicate_zero, List.append_nil]
          exact ⟨hk2, hM2, hdl, hm2⟩
      · rintro ⟨o2, m2, done⟩ ⟨hk2, hM2, hdl, hm2⟩
        simp only [] at hk2 hM2 hdl hm2 ⊢
        have hle2 := parts_le hp hM2.inr hM2.nodup
        have hx := hM2.inr _ (getD_mem (d := 0) hk2)
        have hrl := hM2.rlen
        have hal2 := congrArg List.length hM2.accs
        simp at hal2
        have hea := hok.acc
        refine Is.bnq (appM_ok (by simp; omega)) (Is.bnq (idx_D hk2) (Is.bnq (idxL_int (d := 0) hx.1 (by rw [hea]; exact hx.2)) (Is.bnq (appM_ok (by simp; omega)) (Is.pure ⟨hk2, hM2.turn hk2 hdl, hm2⟩))))
    · rintro ⟨r2, a2, o2, m2⟩ ⟨g1, g2, g3⟩
      have hle2 := parts_le hp g2.inr g2.nodup
      simp only [] at g1 hle2
      exact Is.bnq (chk_succ (by omega)) (Is.next ⟨⟨k + 1, rfl, g2, g3⟩, by simp only [Int.toNat_natCast]; omega⟩)
  · rintro ⟨rows, accs⟩ ⟨order, hM⟩
    simp only [] at hM ⊢
    have hle := parts_le hp hM.inr hM.nodup
    refine Is.pure ⟨out_canon hok hal hp hR hRc hB hM, fun w => ?_, ?_, fun a ha => ?_⟩
    · have := out_res hok hal hp hR hRc hB hM w 0 hM.z.2
      rw [hM.z.1] at this
      exact this
    · have := hM.rlen
      show rows.length ≤ _
      omega
    · have ha : a ∈ accs := ha
      have h1 := hM.accs
      rw [List.take_length] at h1
      rw [h1] at ha
      obtain ⟨x, hx, rfl⟩ := List.mem_map.1 ha
      have := hM.inr x hx
      exact hacc' _ (getD_mem (by rw [hok.acc]; omega))
end Go.Proofs.Ytogpainomdfpnaa
