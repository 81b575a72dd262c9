/- Plain facts on layer 8: the examples; nesting, by evaluation of the models. -/
import Derived.Test.YtffienmbeifioaaDoorMod
import Derived.Test.YtffienmbeifioaaDoorLxEntry
namespace Go.Proofs.YtffienmbeifioaaDoor
open Go.Lx
set_option maxRecDepth 100000 in
theorem awake_true : M.law08_awake = some true := by decide +kernel
set_option maxRecDepth 100000 in
theorem nesting_nat : ∀ n, n < 256 → M.law08_RegexNesting (n : Nat) = some true := by decide +kernel
theorem law_nesting (x0 : Int) (ok0 : (IOk .u8) x0) : M.law08_RegexNesting x0 = some true := by
  obtain ⟨h0, h1⟩ := ok0
  have h0 : 0 ≤ x0 := h0
  have h1 : x0 ≤ 255 := h1
  obtain ⟨n, rfl⟩ := Int.eq_ofNat_of_zero_le h0
  exact nesting_nat n (by omega)
end Go.Proofs.YtffienmbeifioaaDoor
