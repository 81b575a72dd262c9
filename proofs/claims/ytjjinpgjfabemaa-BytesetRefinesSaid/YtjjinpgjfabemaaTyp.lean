/- What the table of types says. -/
import Derived.Test.YtjjinpgjfabemaaRows
import Derived.Test.YtjjinpgjfabemaaLxEntry
import Derived.Test.YtjjinpgjfabemaaMod
set_option linter.unusedVariables false
namespace Go.Proofs.Ytjjinpgjfabemaa
open Go.Lx Go.RowKit
theorem mo : Try.prog.follows .mixedOrders = true := by kernel_rfl
theorem ti3 : TyI Try.prog 3 false 1 8 (.int .i64 0) := ty_of (by kernel_rfl) (by kernel_rfl)
theorem ti5 : TyI Try.prog 5 false 1 1 (.int .u8 0) := ty_of (by kernel_rfl) (by kernel_rfl)
theorem ti23 : TyI Try.prog 23 false 1 8 (.int .u64 0) := ty_of (by kernel_rfl) (by kernel_rfl)
theorem ti25 : TyI Try.prog 25 true 4 32 (encV .u64 (Vec.zero 4)) := ty_of (by kernel_rfl) (by kernel_rfl)
theorem eg25 : Try.prog.eqGuardType Try.prog.depth 25 = false := by kernel_rfl
theorem cf8 : CF Try.prog 8 := cf_of Try.func8 rfl (by decide)
theorem cf9 : CF Try.prog 9 := cf_of Try.func9 rfl (by decide)
theorem cf10 : CF Try.prog 10 := cf_of Try.func10 rfl (by decide)
theorem cf11 : CF Try.prog 11 := cf_of Try.func11 rfl (by decide)
theorem cf12 : CF Try.prog 12 := cf_of Try.func12 rfl (by decide)
theorem cf13 : CF Try.prog 13 := cf_of Try.func13 rfl (by decide)
theorem cf14 : CF Try.prog 14 := cf_of Try.func14 rfl (by decide)
theorem cf15 : CF Try.prog 15 := cf_of Try.func15 rfl (by decide)
theorem cf16 : CF Try.prog 16 := cf_of Try.func16 rfl (by decide)
theorem cf17 : CF Try.prog 17 := cf_of Try.func17 rfl (by decide)
theorem cf18 : CF Try.prog 18 := cf_of Try.func18 rfl (by decide)
theorem cf19 : CF Try.prog 19 := cf_of Try.func19 rfl (by decide)
theorem cf20 : CF Try.prog 20 := cf_of Try.func20 rfl (by decide)
theorem cf21 : CF Try.prog 21 := cf_of Try.func21 rfl (by decide)
theorem cf22 : CF Try.prog 22 := cf_of Try.func22 rfl (by decide)
theorem cf23 : CF Try.prog 23 := cf_of Try.func23 rfl (by decide)
theorem cf24 : CF Try.prog 24 := cf_of Try.func24 rfl (by decide)
theorem cf25 : CF Try.prog 25 := cf_of Try.func25 rfl (by decide)
theorem cf26 : CF Try.prog 26 := cf_of Try.func26 rfl (by decide)
theorem cf27 : CF Try.prog 27 := cf_of Try.func27 rfl (by decide)
theorem cf28 : CF Try.prog 28 := cf_of Try.func28 rfl (by decide)
theorem cf29 : CF Try.prog 29 := cf_of Try.func29 rfl (by decide)

end Go.Proofs.Ytjjinpgjfabemaa
