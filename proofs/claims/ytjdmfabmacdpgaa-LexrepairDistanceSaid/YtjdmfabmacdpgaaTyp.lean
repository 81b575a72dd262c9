/- What the table of types says. -/
import Derived.Test.YtjdmfabmacdpgaaRows
import Derived.Test.YtjdmfabmacdpgaaLxEntry
import Derived.Test.YtjdmfabmacdpgaaLxOrd
import Derived.Test.YtjdmfabmacdpgaaLxLaid
import Derived.Test.YtjdmfabmacdpgaaMod
set_option linter.unusedVariables false
set_option linter.unusedSimpArgs false
namespace Go.Proofs.Ytjdmfabmacdpgaa
open Go.Lx Go.RowKit
theorem mo : Try.prog.follows .mixedOrders = true := by kernel_rfl
theorem ti3 : TyI Try.prog 3 false 1 8 (Value.int .i64 0) := ty_of (by kernel_rfl) (by kernel_rfl)
theorem ti5 : TyI Try.prog 5 false 1 1 (Value.int .u8 0) := ty_of (by kernel_rfl) (by kernel_rfl)
theorem ti9 : TyI Try.prog 9 false 1 16 (encS []) := ty_of (by kernel_rfl) (by kernel_rfl)
theorem ti29 : TyI Try.prog 29 false 1 24 (.slice none 0 0) := ty_of (by kernel_rfl) (by kernel_rfl)
theorem ti31 : TyI Try.prog 31 true 4 48 (Value.agg (List.toArray (α := Value) [.slice none 0 0, Value.bool false, Value.int .i64 0, Value.int .i64 0])) := ty_of (by kernel_rfl) (by kernel_rfl)
theorem ti35 : TyI Try.prog 35 true 4 40 (Value.agg (List.toArray (α := Value) [Value.int .i64 0, Value.int .i64 0, encS [], Value.int .i64 0])) := ty_of (by kernel_rfl) (by kernel_rfl)
theorem ti40 : TyI Try.prog 40 true 2 16 (Value.agg (List.toArray (α := Value) [Value.int .i64 0, Value.int .i64 0])) := ty_of (by kernel_rfl) (by kernel_rfl)
theorem ti41 : TyI Try.prog 41 false 1 24 (.slice none 0 0) := ty_of (by kernel_rfl) (by kernel_rfl)
theorem ti44 : TyI Try.prog 44 true 5 72 (Value.agg (List.toArray (α := Value) [encS [], Value.int .i64 0, encS [], encS [], encS []])) := ty_of (by kernel_rfl) (by kernel_rfl)
theorem ti49 : TyI Try.prog 49 false 1 8 (Value.int .u64 0) := ty_of (by kernel_rfl) (by kernel_rfl)
theorem ti51 : TyI Try.prog 51 true 4 32 (encV .u64 (Vec.zero 4)) := ty_of (by kernel_rfl) (by kernel_rfl)
theorem ti52 : TyI Try.prog 52 false 1 24 (.slice none 0 0) := ty_of (by kernel_rfl) (by kernel_rfl)
theorem ti54 : TyI Try.prog 54 true 6 64 (Value.agg (List.toArray (α := Value) (([Value.int .i64 0]) ++ (((Vec.zero 4).1.map (Value.int .u64)) ++ ([.slice none 0 0]))))) := ty_of (by kernel_rfl) (by kernel_rfl)
theorem ti55 : TyI Try.prog 55 false 1 8 (Value.int .i64 0) := ty_of (by kernel_rfl) (by kernel_rfl)
theorem eg35 : Try.prog.eqGuardType Try.prog.depth 35 = false := by kernel_rfl
theorem eg40 : Try.prog.eqGuardType Try.prog.depth 40 = false := by kernel_rfl
theorem eg51 : Try.prog.eqGuardType Try.prog.depth 51 = false := by kernel_rfl
theorem conc62 : Try.prog.concrete 62 = true := by kernel_rfl
theorem cf6 : CF Try.prog 6 := cf_of Try.func6 rfl (by decide)
theorem cf7 : CF Try.prog 7 := cf_of Try.func7 rfl (by decide)
theorem cf8 : CF Try.prog 8 := cf_of Try.func8 rfl (by decide)
theorem cf9 : CF Try.prog 9 := cf_of Try.func9 rfl (by decide)
theorem cf10 : CF Try.prog 10 := cf_of Try.func10 rfl (by decide)
theorem cf11 : CF Try.prog 11 := cf_of Try.func11 rfl (by decide)
theorem cf12 : CF Try.prog 12 := cf_of Try.func12 rfl (by decide)
theorem cf13 : CF Try.prog 13 := cf_of Try.func13 rfl (by decide)
theorem cf14 : CF Try.prog 14 := cf_of Try.func14 rfl (by decide)
theorem cf15 : CF Try.prog 15 := cf_of Try.func15 rfl (by decide)
theorem cf16 : CF Try.prog 16 := cf_of Try.func16 rfl (by decide)
theorem cf17 : CF Try.prog 17 := cf_of Try.func17 rfl (by decide)
theorem cf18 : CF Try.prog 18 := cf_of Try.func18 rfl (by decide)
theorem cf19 : CF Try.prog 19 := cf_of Try.func19 rfl (by decide)
theorem cf20 : CF Try.prog 20 := cf_of Try.func20 rfl (by decide)
theorem cf21 : CF Try.prog 21 := cf_of Try.func21 rfl (by decide)
theorem cf22 : CF Try.prog 22 := cf_of Try.func22 rfl (by decide)
theorem cf23 : CF Try.prog 23 := cf_of Try.func23 rfl (by decide)
theorem cf24 : CF Try.prog 24 := cf_of Try.func24 rfl (by decide)
theorem cf25 : CF Try.prog 25 := cf_of Try.func25 rfl (by decide)
theorem cf26 : CF Try.prog 26 := cf_of Try.func26 rfl (by decide)
theorem cf27 : CF Try.prog 27 := cf_of Try.func27 rfl (by decide)
theorem cf28 : CF Try.prog 28 := cf_of Try.func28 rfl (by decide)
theorem cf29 : CF Try.prog 29 := cf_of Try.func29 rfl (by decide)
theorem cf30 : CF Try.prog 30 := cf_of Try.func30 rfl (by decide)
theorem cf31 : CF Try.prog 31 := cf_of Try.func31 rfl (by decide)
theorem cf32 : CF Try.prog 32 := cf_of Try.func32 rfl (by decide)
theorem cf33 : CF Try.prog 33 := cf_of Try.func33 rfl (by decide)
theorem cf34 : CF Try.prog 34 := cf_of Try.func34 rfl (by decide)
theorem cf35 : CF Try.prog 35 := cf_of Try.func35 rfl (by decide)
theorem cf36 : CF Try.prog 36 := cf_of Try.func36 rfl (by decide)
theorem cf37 : CF Try.prog 37 := cf_of Try.func37 rfl (by decide)
theorem cf42 : CF Try.prog 42 := cf_of Try.func42 rfl (by decide)
theorem cf45 : CF Try.prog 45 := cf_of Try.func45 rfl (by decide)
theorem cf46 : CF Try.prog 46 := cf_of Try.func46 rfl (by decide)
theorem cf47 : CF Try.prog 47 := cf_of Try.func47 rfl (by decide)
theorem cf48 : CF Try.prog 48 := cf_of Try.func48 rfl (by decide)
theorem cf49 : CF Try.prog 49 := cf_of Try.func49 rfl (by decide)
theorem cf50 : CF Try.prog 50 := cf_of Try.func50 rfl (by decide)
theorem cf51 : CF Try.prog 51 := cf_of Try.func51 rfl (by decide)
theorem cf52 : CF Try.prog 52 := cf_of Try.func52 rfl (by decide)
theorem cf53 : CF Try.prog 53 := cf_of Try.func53 rfl (by decide)
theorem cf54 : CF Try.prog 54 := cf_of Try.func54 rfl (by decide)
theorem cf55 : CF Try.prog 55 := cf_of Try.func55 rfl (by decide)
theorem cf56 : CF Try.prog 56 := cf_of Try.func56 rfl (by decide)
open Go.ChangeShapes Go.WideShapes Go.ChangeAt

end Go.Proofs.Ytjdmfabmacdpgaa
