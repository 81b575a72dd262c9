/- What the table of types says. -/
import Derived.Test.YtjjinpgjfabemaaDoorRows
import Derived.Test.YtjjinpgjfabemaaDoorLxEntry
import Derived.Test.YtjjinpgjfabemaaDoorLxOrd
import Derived.Test.YtjjinpgjfabemaaDoorLxLaid
import Derived.Test.YtjjinpgjfabemaaDoorMod
import Derived.Test.YtjjinpgjfabemaaDoorCards
import Derived.Test.YtjjinpgjfabemaaDoorTie
import Derived.SevenTiedAt
import Derived.ChangeVars
import Derived.LaidHandle
import Derived.Handed
import Derived.JoinedOf
set_option linter.unusedVariables false
set_option linter.unusedSimpArgs false
namespace Go.Proofs.YtjjinpgjfabemaaDoor
open Go.Lx Go.RowKit
theorem mo : Tryd.prog.follows .mixedOrders = true := by kernel_rfl
theorem ti3 : TyI Tryd.prog 3 false 1 8 (Value.int .i64 0) := ty_of (by kernel_rfl) (by kernel_rfl)
theorem ti4 : TyI Tryd.prog 4 false 1 1 (Value.bool false) := ty_of (by kernel_rfl) (by kernel_rfl)
theorem ti5 : TyI Tryd.prog 5 false 1 1 (Value.int .u8 0) := ty_of (by kernel_rfl) (by kernel_rfl)
theorem ti22 : TyI Tryd.prog 22 false 1 8 (Value.int .u64 0) := ty_of (by kernel_rfl) (by kernel_rfl)
theorem ti24 : TyI Tryd.prog 24 true 4 32 (encV .u64 (Vec.zero 4)) := ty_of (by kernel_rfl) (by kernel_rfl)
theorem ti25 : TyI Tryd.prog 25 false 1 24 (.slice none 0 0) := ty_of (by kernel_rfl) (by kernel_rfl)
theorem cf4 : CF Tryd.prog 4 := cf_of Tryd.func4 rfl (by decide)
theorem cf5 : CF Tryd.prog 5 := cf_of Tryd.func5 rfl (by decide)
theorem cf6 : CF Tryd.prog 6 := cf_of Tryd.func6 rfl (by decide)
theorem cf7 : CF Tryd.prog 7 := cf_of Tryd.func7 rfl (by decide)
theorem cf8 : CF Tryd.prog 8 := cf_of Tryd.func8 rfl (by decide)
theorem cf9 : CF Tryd.prog 9 := cf_of Tryd.func9 rfl (by decide)
theorem cf10 : CF Tryd.prog 10 := cf_of Tryd.func10 rfl (by decide)
theorem cf11 : CF Tryd.prog 11 := cf_of Tryd.func11 rfl (by decide)
theorem cf12 : CF Tryd.prog 12 := cf_of Tryd.func12 rfl (by decide)
theorem cf13 : CF Tryd.prog 13 := cf_of Tryd.func13 rfl (by decide)
theorem cf14 : CF Tryd.prog 14 := cf_of Tryd.func14 rfl (by decide)
theorem cf15 : CF Tryd.prog 15 := cf_of Tryd.func15 rfl (by decide)
open Go.ChangeShapes Go.WideShapes Go.ChangeAt

end Go.Proofs.YtjjinpgjfabemaaDoor
