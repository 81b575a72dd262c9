/- What the second form of a statement says of expressions: they have few parts. -/
import Derived.Test.YtajmekjcnbmaaaaPl09i
import Derived.Test.YtajmekjcnbmaaaaLxUp
namespace Go.Proofs.Ytajmekjcnbmaaaa
open Go.Lx Go.RowKit Go.ChangeShapes Go.WideShapes Go.ChangeAt

theorem bulkAll_eq {H : Type} : ∀ l : List (DataW H), Rows.uptoBulkAll l = (l.map Rows.uptoBulk).sum
  | [] => by simp [Rows.uptoBulkAll]
  | d :: l => by simp only [Rows.uptoBulkAll, List.map_cons, List.sum_cons, bulkAll_eq l]
abbrev bulk (H : Type) (d : DataW H) : Nat := Rows.uptoBulk d
theorem bulk_ok : Bulk bulk := by
  refine ⟨fun H es sp => ?_, fun H ps => ?_⟩
  · show _ ≤ Rows.uptoBulk (.slice es sp)
    simp only [Rows.uptoBulk, bulkAll_eq]
    show (es.map Rows.uptoBulk).sum ≤ _
    omega
  · show _ ≤ Rows.uptoBulk (.agg ps)
    simp only [Rows.uptoBulk, bulkAll_eq]
    exact Nat.le_refl _
theorem partsL_sum : ∀ {l : List T_Regex} {ns : List Nat}, ns.length = l.length → (∀ (i : Nat) (x : T_Regex), l[i]? = some x → ∃ k, ns[i]? = some k ∧ (okT_Regex x ∧ parts x ≤ k)) → partsL l ≤ ns.sum ∧ ∀ x ∈ l, okT_Regex x
  | [], ns, _, _ => by simp [partsL]
  | y :: l, [], h, _ => by simp at h
  | y :: l, n :: ns, h, hk => by
    obtain ⟨k, h1, h2, h3⟩ := hk 0 y rfl
    cases h1
    obtain ⟨h4, h5⟩ := partsL_sum (l := l) (ns := ns) (by simpa using h) (fun i x hx => by
      obtain ⟨k, a, b⟩ := hk (i + 1) x (by simpa using hx)
      exact ⟨k, by simpa using a, b⟩)
    refine ⟨by simp only [partsL, List.sum_cons]; omega, fun x hx => ?_⟩
    rcases List.mem_cons.1 hx with rfl | hx
    · exact h2
    · exact h5 x hx
set_option maxRecDepth 100000 in
theorem readsU_Regex : ∀ f, ReadsU bulk Try.prog 50 tT_Regex (fun y n => okT_Regex y ∧ parts y ≤ n) f := by
  intro f
  induction f using Nat.strongRecOn with
  | _ f ih =>
  intro H enc w cs x h
  obtain ⟨xs, m, hfm, hx, hl, hlen, hf⟩ := DataW.trod_struct Try.underlying50 h
  obtain ⟨y0, r0, k0⟩ := field_readsAt ((reads_int Try.underlying3).at m) hf hlen 0 rfl (o := 0) (s := 1) rfl (by kernel_rfl)
  obtain ⟨y1, r1, k1⟩ := field_readsAt ((reads_vec Try.underlying48 Try.underlying46 (by kernel_rfl) (by kernel_rfl)).at m) hf hlen 1 rfl (o := 1) (s := 4) rfl (by kernel_rfl)
  obtain ⟨y2, e2, g2, r2, k2⟩ := field_readsU (readsU_sliceAt bulk_ok Try.underlying37 (by kernel_rfl) (by decide) fun k hk => ih k (by omega)) hf hlen 2 rfl (o := 5) (s := 1) rfl (by kernel_rfl)
  have hl2 : cs.length = 6 := hl.trans (by kernel_rfl)
  obtain ⟨⟨ns, n1, n2, n3⟩, n4⟩ := k2
  obtain ⟨q1, q2⟩ := partsL_sum n1 n3
  have hb := bulk_ok.agg H (xs.map (·.1))
  have hs : bulk H e2.1 ≤ ((xs.map (·.1)).map (bulk H)).sum := sum_get (i := 2) (by simp [g2])
  refine ⟨⟨y0, y1, y2⟩, tT_Regex_iff.2 ⟨_, _, _, ?_, r0, r1, r2⟩, .mk _ k0 k1 q2 n4, ?_⟩
  · exact (cutc cs 0 1).trans (congrArg (_ ++ ·) ((cutc cs 1 4).trans (congrArg (_ ++ ·) (cutl (o := 5) (s := 1) hl2))))
  · rw [hx]
    simp only [parts]
    omega
theorem readsU_Regexes : ∀ f, ReadsU bulk Try.prog 37 (tSl tT_Regex) (fun l n => ((∀ x ∈ l, okT_Regex x) ∧ l.length ≤ maxLen) ∧ partsL l ≤ n) f := by
  intro f H enc w cs x h
  obtain ⟨y, h1, ⟨ns, n1, n2, n3⟩, n4⟩ := readsU_sliceAt bulk_ok Try.underlying37 (by kernel_rfl) (by decide) (fun m _ => readsU_Regex m) H enc w cs x h
  obtain ⟨q1, q2⟩ := partsL_sum n1 n3
  exact ⟨y, h1, ⟨q2, n4⟩, by omega⟩
end Go.Proofs.Ytajmekjcnbmaaaa
