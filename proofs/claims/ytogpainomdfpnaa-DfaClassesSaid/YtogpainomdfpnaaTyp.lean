/- What the table of types says. -/
import Derived.Test.YtogpainomdfpnaaRows
import Derived.Test.YtogpainomdfpnaaLxEntry
import Derived.Test.YtogpainomdfpnaaLxFn
import Derived.Test.YtogpainomdfpnaaMod
set_option linter.unusedVariables false
namespace Go.Proofs.Ytogpainomdfpnaa
open Go.Lx Go.RowKit
theorem mo : Try.prog.follows .mixedOrders = true := by kernel_rfl
theorem ti3 : TyI Try.prog 3 false 1 8 (.int .i64 0) := ty_of (by kernel_rfl) (by kernel_rfl)
theorem ti4 : TyI Try.prog 4 false 1 1 (.bool false) := ty_of (by kernel_rfl) (by kernel_rfl)
theorem ti5 : TyI Try.prog 5 false 1 1 (.int .u8 0) := ty_of (by kernel_rfl) (by kernel_rfl)
theorem ti9 : TyI Try.prog 9 false 1 16 (encS []) := ty_of (by kernel_rfl) (by kernel_rfl)
theorem ti22 : TyI Try.prog 22 false 1 24 (.slice none 0 0) := ty_of (by kernel_rfl) (by kernel_rfl)
theorem ti23 : TyI Try.prog 23 false 1 24 (.slice none 0 0) := ty_of (by kernel_rfl) (by kernel_rfl)
theorem ti25 : TyI Try.prog 25 true 3 72 (.agg (List.toArray (α := Value) [.slice none 0 0, .slice none 0 0, .slice none 0 0])) := ty_of (by kernel_rfl) (by kernel_rfl)
theorem ti64 : TyI Try.prog 64 true 2 16 (.agg (List.toArray (α := Value) [.int .i64 0, .int .i64 0])) := ty_of (by kernel_rfl) (by kernel_rfl)
theorem ti66 : TyI Try.prog 66 true 3 32 (.agg (List.toArray (α := Value) (([.int .i64 0, .int .i64 0]) ++ ([encS []])))) := ty_of (by kernel_rfl) (by kernel_rfl)
theorem ti68 : TyI Try.prog 68 true 0 0 (.agg (List.toArray (α := Value) [])) := ty_of (by kernel_rfl) (by kernel_rfl)
theorem ti72 : TyI Try.prog 72 true 3 32 (.agg (List.toArray (α := Value) [.int .i64 0, .int .i64 0, encS []])) := ty_of (by kernel_rfl) (by kernel_rfl)
theorem ti75 : TyI Try.prog 75 false 1 8 (.int .u64 0) := ty_of (by kernel_rfl) (by kernel_rfl)
theorem ti77 : TyI Try.prog 77 true 4 32 (encV .u64 (Vec.zero 4)) := ty_of (by kernel_rfl) (by kernel_rfl)
theorem ti88 : TyI Try.prog 88 false 1 24 (.slice none 0 0) := ty_of (by kernel_rfl) (by kernel_rfl)
theorem cf9 : CF Try.prog 9 := cf_of Try.func9 rfl (by decide)
theorem cf10 : CF Try.prog 10 := cf_of Try.func10 rfl (by decide)
theorem cf11 : CF Try.prog 11 := cf_of Try.func11 rfl (by decide)
theorem cf12 : CF Try.prog 12 := cf_of Try.func12 rfl (by decide)
theorem cf13 : CF Try.prog 13 := cf_of Try.func13 rfl (by decide)
theorem cf14 : CF Try.prog 14 := cf_of Try.func14 rfl (by decide)
theorem cf15 : CF Try.prog 15 := cf_of Try.func15 rfl (by decide)
theorem cf16 : CF Try.prog 16 := cf_of Try.func16 rfl (by decide)
theorem cf17 : CF Try.prog 17 := cf_of Try.func17 rfl (by decide)
theorem cf18 : CF Try.prog 18 := cf_of Try.func18 rfl (by decide)
theorem cf19 : CF Try.prog 19 := cf_of Try.func19 rfl (by decide)
theorem cf24 : CF Try.prog 24 := cf_of Try.func24 rfl (by decide)
theorem cf25 : CF Try.prog 25 := cf_of Try.func25 rfl (by decide)
theorem cf26 : CF Try.prog 26 := cf_of Try.func26 rfl (by decide)
theorem cf27 : CF Try.prog 27 := cf_of Try.func27 rfl (by decide)
theorem cf28 : CF Try.prog 28 := cf_of Try.func28 rfl (by decide)
theorem cf29 : CF Try.prog 29 := cf_of Try.func29 rfl (by decide)
theorem cf30 : CF Try.prog 30 := cf_of Try.func30 rfl (by decide)
theorem cf31 : CF Try.prog 31 := cf_of Try.func31 rfl (by decide)
theorem cf32 : CF Try.prog 32 := cf_of Try.func32 rfl (by decide)
theorem cf33 : CF Try.prog 33 := cf_of Try.func33 rfl (by decide)
theorem cf34 : CF Try.prog 34 := cf_of Try.func34 rfl (by decide)
theorem cf35 : CF Try.prog 35 := cf_of Try.func35 rfl (by decide)
theorem cf36 : CF Try.prog 36 := cf_of Try.func36 rfl (by decide)
theorem cf37 : CF Try.prog 37 := cf_of Try.func37 rfl (by decide)
theorem cf38 : CF Try.prog 38 := cf_of Try.func38 rfl (by decide)
theorem cf53 : CF Try.prog 53 := cf_of Try.func53 rfl (by decide)
theorem cf54 : CF Try.prog 54 := cf_of Try.func54 rfl (by decide)
theorem cf55 : CF Try.prog 55 := cf_of Try.func55 rfl (by decide)
theorem cf56 : CF Try.prog 56 := cf_of Try.func56 rfl (by decide)
theorem cf57 : CF Try.prog 57 := cf_of Try.func57 rfl (by decide)
theorem cf65 : CF Try.prog 65 := cf_of Try.func65 rfl (by decide)
theorem cf66 : CF Try.prog 66 := cf_of Try.func66 rfl (by decide)
open Go.ChangeShapes Go.WideShapes Go.ChangeAt
def okT_DFA (x : T_DFA) : Prop := (fun l => (∀ x ∈ l, (IOk .i64) x) ∧ l.length ≤ maxLen) x.Class ∧ (fun l => (∀ x ∈ l, (fun l => (∀ x ∈ l, (IOk .i64) x) ∧ l.length ≤ maxLen) x) ∧ l.length ≤ maxLen) x.Next ∧ (fun l => (∀ x ∈ l, (IOk .i64) x) ∧ l.length ≤ maxLen) x.Accept
theorem readsT_DFA : Reads Try.prog 25 tT_DFA okT_DFA := by
  intro H enc w f cs x h
  obtain ⟨_, _, _, _, hl, hlen, hf⟩ := DataW.trod_struct Try.underlying25 h
  obtain ⟨y0, r0, k0⟩ := field_reads (reads_slice Try.underlying22 (by kernel_rfl) (by decide) (reads_int Try.underlying3)) hf hlen 0 rfl (o := 0) (s := 1) rfl (by kernel_rfl)
  obtain ⟨y1, r1, k1⟩ := field_reads (reads_slice Try.underlying23 (by kernel_rfl) (by decide) (reads_slice Try.underlying22 (by kernel_rfl) (by decide) (reads_int Try.underlying3))) hf hlen 1 rfl (o := 1) (s := 1) rfl (by kernel_rfl)
  obtain ⟨y2, r2, k2⟩ := field_reads (reads_slice Try.underlying22 (by kernel_rfl) (by decide) (reads_int Try.underlying3)) hf hlen 2 rfl (o := 2) (s := 1) rfl (by kernel_rfl)
  have hl2 : cs.length = 3 := hl.trans (by kernel_rfl)
  refine ⟨⟨y0, y1, y2⟩, ⟨_, _, _, ?_, r0, r1, r2⟩, k0, k1, k2⟩
  exact (cutc cs 0 1).trans (congrArg (_ ++ ·) ((cutc cs 1 1).trans (congrArg (_ ++ ·) (cutl (o := 2) (s := 1) hl2))))
end Go.Proofs.Ytogpainomdfpnaa
