/- Plain facts on layer 34: the samples; the laws of Valid, Parse and Format. -/
import Derived.Test.YtbfmbiapjgpfhaaGreatDoorPl34j
import Derived.Test.YtbfmbiapjgpfhaaGreatDoorTyp
set_option linter.unusedVariables false
set_option linter.unusedSimpArgs false
namespace Go.Proofs.YtbfmbiapjgpfhaaGreatDoor
open Go.Lx

def samP : T_Prices := T_Prices.mk [3, 10] [10, 10] [[0, (-1)], [15, 0]] 12 8
theorem awake_true : M.law34_awake = some true := by
  have e1 : parseB [105, 110, 115, 101, 114, 116, 32, 97, 32, 51, 32, 35, 32, 99, 104, 101, 97, 112, 10, 10, 114, 101, 112, 108, 97, 99, 101, 32, 97, 32, 98, 32, 110, 101, 118, 101, 114, 10] [[97], [98]] = (samP, 0, 0) := by kernel_rfl
  have e2 : fmtB samP [[97], [98]] = ([105, 110, 115, 101, 114, 116, 32, 97, 32, 51, 10, 114, 101, 112, 108, 97, 99, 101, 32, 97, 32, 98, 32, 110, 101, 118, 101, 114, 10], 0) := by kernel_rfl
  have e3 : (parseB [115, 119, 97, 112, 32, 49, 10, 115, 119, 97, 112, 32, 120] [[97], [98]]).2 = (2, 3) := by kernel_rfl
  have e4 : (parseB [105, 110, 115, 101, 114, 116, 32, 99, 32, 50] [[97], [98]]).2 = (1, 4) := by kernel_rfl
  have v1 : validB samP 2 = true := by kernel_rfl
  have v2 : validB samP 1 = false := by kernel_rfl
  have d0 := (def_all 0 (by decide)).1
  refine Is.eq ?_
  unfold M.law34_awake
  refine Is.bnq ((parse_ok (by decide) (by decide) (by decide)).trans (congrArg some e1)) (Is.bnq ((format_ok (p := samP) (by decide) (by decide) (by decide) (by decide)).trans (congrArg some e2)) (Is.bnq (parse_ok (by decide) (by decide) (by decide)) (Is.bnq (parse_ok (by decide) (by decide) (by decide)) (Is.bnq (x := true) (Is.eq ?_) (Is.pure rfl)))))
  refine Is.ct rfl (Is.ct rfl (Is.bnq (same_self (a := samP) (by decide) (by decide) (by decide) (by decide)) (Is.ct rfl (Is.ct rfl (Is.bnq (x := true) rfl (Is.ct rfl (Is.ct (by rw [e3]; rfl) (Is.ct (by rw [e3]; rfl) (Is.ct (by rw [e4]; rfl) (Is.ct (by rw [e4]; rfl) ?_))))))))))
  refine Is.bnq ((valid_ok (p := samP) (by decide) (by decide)).trans (congrArg some v1)) (Is.ct rfl (Is.bnq ((valid_ok (p := samP) (by decide) (by decide)).trans (congrArg some v2)) (Is.ct rfl (Is.bnq d0 (Is.bnq ?_ (Is.pure rfl))))))
  exact same_self (a := defP 0) (by decide) (by decide) (by decide) (by decide)
theorem def_valid : ∀ k : Nat, k < 20 → validB (defP k) (k : Int) = true := by decide +kernel

theorem max_le {n : Nat} (h : n ≤ maxLen) : n ≤ 9223372036854775807 := Nat.le_trans h (by decide)
theorem few_ok {x0 : T_Prices} (ok0 : okT_Prices x0) : x0.Replace.length ≤ 9223372036854775807 := by
  obtain ⟨_, _, o3, _⟩ := ok0
  exact max_le o3.2
theorem law_valid (x0 : T_Prices) (ok0 : okT_Prices x0) (x1 : Int) (ok1 : IOk .i64 x1) (x2 : Int) (ok2 : IOk .u8 x2) : M.law34_PricesValid x0 x1 x2 = some true := by
  refine Is.eq ?_
  unfold M.law34_PricesValid
  refine Is.bnd (few_is (m := 10) (few_ok ok0)) fun b hb => Is.cnd (fun _ => Is.bnq awake_true (Is.pure rfl)) (fun e => ?_)
  obtain ⟨h1, h2, h3, h4⟩ := hb (by simpa using e)
  have hu : 0 ≤ x2 ∧ x2 ≤ 255 := by
    have h9 := ok2.1
    have h8 := ok2.2
    simp [IntKind.min, IntKind.max, IntKind.bits, IntKind.signed] at h9 h8
    omega
  obtain ⟨m, rfl⟩ := Int.eq_ofNat_of_zero_le hu.1
  have hk : m % 20 < 20 := Nat.mod_lt _ (by decide)
  have hd := def_all (m % 20) hk
  have hr : ∀ r ∈ x0.Replace, r.length ≤ 1073741824 := fun r hr => by have := h4 r hr; omega
  refine Is.bnq (x := ((m % 20 : Nat) : Int)) (rem_nat (a := m) (b := 20) (by decide)) ?_
  rw [wrap_i64 (by omega) (by omega)]
  refine Is.bnq hd.1 (Is.bnq (x := true) (Is.eq (Is.bnq awake_true (Is.ct rfl (Is.bnq (valid_ok (by omega) hr) (Is.bnq (rvalid_ok (by omega) hr) (Is.ct (by simp) (Is.bnq hd.2 (Is.bnq (same_sh (sh_def _) (by omega)) (Is.ct rfl (Is.bnq (valid_ok ?_ ?_) (Is.pure (def_valid _ hk)))))))))))) (Is.pure rfl))
  · rw [(sh_def (m % 20)).ins]; omega
  · intro r hr; rw [(sh_def (m % 20)).row r hr]; omega
theorem law_parse (x0 : Str) (ok0 : x0.length ≤ maxLen) (x1 : List Str) (ok1 : (∀ x ∈ x1, x.length ≤ maxLen) ∧ x1.length ≤ maxLen) : M.law34_PricesParse x0 x1 = some true := by
  refine Is.eq ?_
  unfold M.law34_PricesParse
  refine Is.bnd (P := fun b : Bool => b = false → x0.length ≤ 500 ∧ x1.length ≤ 8 ∧ ∀ s ∈ x1, s.length ≤ 30) (Is.dcd (fun _ => Is.pure fun h => by cases h) (fun h500 => Is.bnd (short_is (max_le ok1.2)) fun b hb => Is.pure fun h => ?_)) fun b hb => Is.cnd (fun _ => Is.bnq awake_true (Is.pure rfl)) (fun e => ?_)
  · exact ⟨by omega, hb (by simpa using h)⟩
  · obtain ⟨h1, h2, h3⟩ := hb e
    have h4 : ∀ x ∈ x1, x.length ≤ 1073741824 := fun x hx => by have := h3 x hx; omega
    refine Is.bnq (parse_ok (by omega) (by omega) h4) (Is.bnq (rparse_ok (by omega) (by omega) h4) (Is.bnq (x := true) (Is.eq (Is.bnq awake_true (Is.ct rfl (Is.ct (by simp) (Is.ct (by simp) (Is.bnq (same_parse (by omega)) (Is.pure rfl))))))) (Is.pure rfl)))
theorem law_format (x0 : T_Prices) (ok0 : okT_Prices x0) (x1 : List Str) (ok1 : (∀ x ∈ x1, x.length ≤ maxLen) ∧ x1.length ≤ maxLen) : M.law34_PricesFormat x0 x1 = some true := by
  refine Is.eq ?_
  unfold M.law34_PricesFormat
  refine Is.bnd (P := fun b : Bool => b = false → (x0.Insert.length ≤ 10 ∧ x0.Delete.length ≤ 10 ∧ x0.Replace.length ≤ 10 ∧ ∀ r ∈ x0.Replace, r.length ≤ 10) ∧ x1.length ≤ 8 ∧ ∀ s ∈ x1, s.length ≤ 30) (Is.bnd (few_is (m := 10) (few_ok ok0)) fun b hb => Is.cnd (fun _ => Is.pure fun h => by cases h) (fun e => Is.bnd (short_is (max_le ok1.2)) fun b2 hb2 => Is.pure fun h => ?_)) fun b hb => Is.cnd (fun _ => Is.bnq awake_true (Is.pure rfl)) (fun e => ?_)
  · exact ⟨hb (by simpa using e), hb2 (by simpa using h)⟩
  · obtain ⟨⟨h1, h2, h3, h4⟩, h5, h6⟩ := hb e
    have hr : ∀ r ∈ x0.Replace, r.length ≤ 1073741824 := fun r hr => by have := h4 r hr; omega
    exact Is.bnq (format_ok (by omega) h6 (by omega) hr) (Is.bnq (rformat_ok (by omega) h6 (by omega) hr) (Is.bnq (x := true) (Is.eq (Is.bnq awake_true (Is.ct rfl (Is.ct (by simp) (Is.pure (by simp)))))) (Is.pure rfl)))
end Go.Proofs.YtbfmbiapjgpfhaaGreatDoor
