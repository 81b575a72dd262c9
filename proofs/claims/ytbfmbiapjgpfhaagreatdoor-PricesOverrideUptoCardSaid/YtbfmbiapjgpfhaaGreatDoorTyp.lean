/- What the table of types says. -/
import Derived.Test.YtbfmbiapjgpfhaaGreatDoorRows
import Derived.Test.YtbfmbiapjgpfhaaGreatDoorLxEntry
import Derived.Test.YtbfmbiapjgpfhaaGreatDoorLxOrd
import Derived.Test.YtbfmbiapjgpfhaaGreatDoorLxLaid
import Derived.Test.YtbfmbiapjgpfhaaGreatDoorMod
import Derived.Test.YtbfmbiapjgpfhaaGreatDoorCards
import Derived.Test.YtbfmbiapjgpfhaaGreatDoorTie
import Derived.SevenTiedAt
import Derived.ChangeVars
import Derived.LaidHandle
import Derived.Handed
import Derived.JoinedOf
import Derived.Test.YtbfmbiapjgpfhaaGreatDoorLxShort
set_option linter.unusedVariables false
set_option linter.unusedSimpArgs false
namespace Go.Proofs.YtbfmbiapjgpfhaaGreatDoor
open Go.Lx Go.RowKit
theorem mo : Tryz.prog.follows .mixedOrders = true := by kernel_rfl
theorem ti3 : TyI Tryz.prog 3 false 1 8 (Value.int .i64 0) := ty_of (by kernel_rfl) (by kernel_rfl)
theorem ti5 : TyI Tryz.prog 5 false 1 1 (Value.int .u8 0) := ty_of (by kernel_rfl) (by kernel_rfl)
theorem ti9 : TyI Tryz.prog 9 false 1 16 (encS []) := ty_of (by kernel_rfl) (by kernel_rfl)
theorem ti22 : TyI Tryz.prog 22 false 1 24 (.slice none 0 0) := ty_of (by kernel_rfl) (by kernel_rfl)
theorem ti23 : TyI Tryz.prog 23 false 1 24 (.slice none 0 0) := ty_of (by kernel_rfl) (by kernel_rfl)
theorem ti25 : TyI Tryz.prog 25 true 5 88 (Value.agg (List.toArray (α := Value) [.slice none 0 0, .slice none 0 0, .slice none 0 0, Value.int .i64 0, Value.int .i64 0])) := ty_of (by kernel_rfl) (by kernel_rfl)
theorem ti31 : TyI Tryz.prog 31 false 1 24 (.slice none 0 0) := ty_of (by kernel_rfl) (by kernel_rfl)
theorem ti55 : TyI Tryz.prog 55 false 1 8 ((Value.pointer none)) := ty_of (by kernel_rfl) (by kernel_rfl)
theorem ti56 : TyI Tryz.prog 56 false 1 24 (.slice none 0 0) := ty_of (by kernel_rfl) (by kernel_rfl)
theorem ti58 : TyI Tryz.prog 58 true 2 32 (Value.agg (List.toArray (α := Value) [(Value.pointer none), .slice none 0 0])) := ty_of (by kernel_rfl) (by kernel_rfl)
theorem ti69 : TyI Tryz.prog 69 false 1 24 (.slice none 0 0) := ty_of (by kernel_rfl) (by kernel_rfl)
theorem ti71 : TyI Tryz.prog 71 true 3 48 (Value.agg (List.toArray (α := Value) [Value.int .i64 0, encS [], .slice none 0 0])) := ty_of (by kernel_rfl) (by kernel_rfl)
theorem ti73 : TyI Tryz.prog 73 true 4 56 (Value.agg (List.toArray (α := Value) (([Value.int .i64 0, encS [], .slice none 0 0]) ++ ([Value.int .i64 0])))) := ty_of (by kernel_rfl) (by kernel_rfl)
theorem ti74 : TyI Tryz.prog 74 false 1 24 (.slice none 0 0) := ty_of (by kernel_rfl) (by kernel_rfl)
theorem ti76 : TyI Tryz.prog 76 true 2 40 (Value.agg (List.toArray (α := Value) [encS [], .slice none 0 0])) := ty_of (by kernel_rfl) (by kernel_rfl)
theorem ti77 : TyI Tryz.prog 77 false 1 24 (.slice none 0 0) := ty_of (by kernel_rfl) (by kernel_rfl)
theorem ti78 : TyI Tryz.prog 78 false 1 24 (.slice none 0 0) := ty_of (by kernel_rfl) (by kernel_rfl)
theorem ti80 : TyI Tryz.prog 80 true 3 64 (Value.agg (List.toArray (α := Value) [encS [], .slice none 0 0, .slice none 0 0])) := ty_of (by kernel_rfl) (by kernel_rfl)
theorem ti105 : TyI Tryz.prog 105 true 2 32 (Value.agg (List.toArray (α := Value) [Value.int .i64 0, .slice none 0 0])) := ty_of (by kernel_rfl) (by kernel_rfl)
theorem conc9 : Tryz.prog.concrete 9 = true := by kernel_rfl
theorem cf9 : CF Tryz.prog 9 := cf_of Tryz.func9 rfl (by decide)
theorem cf10 : CF Tryz.prog 10 := cf_of Tryz.func10 rfl (by decide)
theorem cf11 : CF Tryz.prog 11 := cf_of Tryz.func11 rfl (by decide)
theorem cf12 : CF Tryz.prog 12 := cf_of Tryz.func12 rfl (by decide)
theorem cf13 : CF Tryz.prog 13 := cf_of Tryz.func13 rfl (by decide)
theorem cf14 : CF Tryz.prog 14 := cf_of Tryz.func14 rfl (by decide)
theorem cf15 : CF Tryz.prog 15 := cf_of Tryz.func15 rfl (by decide)
theorem cf16 : CF Tryz.prog 16 := cf_of Tryz.func16 rfl (by decide)
theorem cf17 : CF Tryz.prog 17 := cf_of Tryz.func17 rfl (by decide)
theorem cf18 : CF Tryz.prog 18 := cf_of Tryz.func18 rfl (by decide)
theorem cf19 : CF Tryz.prog 19 := cf_of Tryz.func19 rfl (by decide)
theorem cf20 : CF Tryz.prog 20 := cf_of Tryz.func20 rfl (by decide)
theorem cf21 : CF Tryz.prog 21 := cf_of Tryz.func21 rfl (by decide)
theorem cf22 : CF Tryz.prog 22 := cf_of Tryz.func22 rfl (by decide)
theorem cf23 : CF Tryz.prog 23 := cf_of Tryz.func23 rfl (by decide)
theorem cf24 : CF Tryz.prog 24 := cf_of Tryz.func24 rfl (by decide)
theorem cf25 : CF Tryz.prog 25 := cf_of Tryz.func25 rfl (by decide)
theorem cf26 : CF Tryz.prog 26 := cf_of Tryz.func26 rfl (by decide)
theorem cf27 : CF Tryz.prog 27 := cf_of Tryz.func27 rfl (by decide)
theorem cf28 : CF Tryz.prog 28 := cf_of Tryz.func28 rfl (by decide)
theorem cf29 : CF Tryz.prog 29 := cf_of Tryz.func29 rfl (by decide)
theorem cf30 : CF Tryz.prog 30 := cf_of Tryz.func30 rfl (by decide)
theorem cf31 : CF Tryz.prog 31 := cf_of Tryz.func31 rfl (by decide)
theorem cf32 : CF Tryz.prog 32 := cf_of Tryz.func32 rfl (by decide)
theorem cf33 : CF Tryz.prog 33 := cf_of Tryz.func33 rfl (by decide)
theorem cf34 : CF Tryz.prog 34 := cf_of Tryz.func34 rfl (by decide)
theorem cf35 : CF Tryz.prog 35 := cf_of Tryz.func35 rfl (by decide)
theorem cf36 : CF Tryz.prog 36 := cf_of Tryz.func36 rfl (by decide)
theorem cf37 : CF Tryz.prog 37 := cf_of Tryz.func37 rfl (by decide)
theorem cf38 : CF Tryz.prog 38 := cf_of Tryz.func38 rfl (by decide)
theorem cf39 : CF Tryz.prog 39 := cf_of Tryz.func39 rfl (by decide)
theorem cf40 : CF Tryz.prog 40 := cf_of Tryz.func40 rfl (by decide)
theorem cf41 : CF Tryz.prog 41 := cf_of Tryz.func41 rfl (by decide)
theorem cf42 : CF Tryz.prog 42 := cf_of Tryz.func42 rfl (by decide)
theorem cf43 : CF Tryz.prog 43 := cf_of Tryz.func43 rfl (by decide)
theorem cf44 : CF Tryz.prog 44 := cf_of Tryz.func44 rfl (by decide)
theorem cf45 : CF Tryz.prog 45 := cf_of Tryz.func45 rfl (by decide)
theorem cf46 : CF Tryz.prog 46 := cf_of Tryz.func46 rfl (by decide)
theorem cf47 : CF Tryz.prog 47 := cf_of Tryz.func47 rfl (by decide)
theorem cf48 : CF Tryz.prog 48 := cf_of Tryz.func48 rfl (by decide)
theorem cf49 : CF Tryz.prog 49 := cf_of Tryz.func49 rfl (by decide)
theorem cf50 : CF Tryz.prog 50 := cf_of Tryz.func50 rfl (by decide)
theorem cf51 : CF Tryz.prog 51 := cf_of Tryz.func51 rfl (by decide)
theorem cf53 : CF Tryz.prog 53 := cf_of Tryz.func53 rfl (by decide)
theorem cf56 : CF Tryz.prog 56 := cf_of Tryz.func56 rfl (by decide)
theorem cf57 : CF Tryz.prog 57 := cf_of Tryz.func57 rfl (by decide)
theorem cf58 : CF Tryz.prog 58 := cf_of Tryz.func58 rfl (by decide)
theorem cf62 : CF Tryz.prog 62 := cf_of Tryz.func62 rfl (by decide)
theorem cf63 : CF Tryz.prog 63 := cf_of Tryz.func63 rfl (by decide)
theorem cf64 : CF Tryz.prog 64 := cf_of Tryz.func64 rfl (by decide)
theorem cf65 : CF Tryz.prog 65 := cf_of Tryz.func65 rfl (by decide)
theorem cf66 : CF Tryz.prog 66 := cf_of Tryz.func66 rfl (by decide)
theorem cf70 : CF Tryz.prog 70 := cf_of Tryz.func70 rfl (by decide)
theorem cf71 : CF Tryz.prog 71 := cf_of Tryz.func71 rfl (by decide)
theorem cf72 : CF Tryz.prog 72 := cf_of Tryz.func72 rfl (by decide)
theorem cf73 : CF Tryz.prog 73 := cf_of Tryz.func73 rfl (by decide)
theorem cf77 : CF Tryz.prog 77 := cf_of Tryz.func77 rfl (by decide)
theorem cf92 : CF Tryz.prog 92 := cf_of Tryz.func92 rfl (by decide)
theorem cf93 : CF Tryz.prog 93 := cf_of Tryz.func93 rfl (by decide)
theorem cf94 : CF Tryz.prog 94 := cf_of Tryz.func94 rfl (by decide)
theorem cf95 : CF Tryz.prog 95 := cf_of Tryz.func95 rfl (by decide)
theorem cf114 : CF Tryz.prog 114 := cf_of Tryz.func114 rfl (by decide)
open Go.ChangeShapes Go.WideShapes Go.ChangeAt
def okT_Prices (x : T_Prices) : Prop := (fun l => (∀ x ∈ l, (IOk .i64) x) ∧ l.length ≤ maxLen) x.Insert ∧ (fun l => (∀ x ∈ l, (IOk .i64) x) ∧ l.length ≤ maxLen) x.Delete ∧ (fun l => (∀ x ∈ l, (fun l => (∀ x ∈ l, (IOk .i64) x) ∧ l.length ≤ maxLen) x) ∧ l.length ≤ maxLen) x.Replace ∧ (IOk .i64) x.Swap ∧ (IOk .i64) x.Unknown
set_option maxRecDepth 100000 in
theorem readsT_Prices : Reads Tryz.prog 25 tT_Prices okT_Prices := by
  intro H enc w f cs x h
  obtain ⟨_, _, _, _, hl, hlen, hf⟩ := DataW.trod_struct Tryz.underlying25 h
  obtain ⟨y0, r0, k0⟩ := field_reads (reads_slice Tryz.underlying22 (by kernel_rfl) (by decide) (reads_int Tryz.underlying3)) hf hlen 0 rfl (o := 0) (s := 1) rfl (by kernel_rfl)
  obtain ⟨y1, r1, k1⟩ := field_reads (reads_slice Tryz.underlying22 (by kernel_rfl) (by decide) (reads_int Tryz.underlying3)) hf hlen 1 rfl (o := 1) (s := 1) rfl (by kernel_rfl)
  obtain ⟨y2, r2, k2⟩ := field_reads (reads_slice Tryz.underlying23 (by kernel_rfl) (by decide) (reads_slice Tryz.underlying22 (by kernel_rfl) (by decide) (reads_int Tryz.underlying3))) hf hlen 2 rfl (o := 2) (s := 1) rfl (by kernel_rfl)
  obtain ⟨y3, r3, k3⟩ := field_reads (reads_int Tryz.underlying3) hf hlen 3 rfl (o := 3) (s := 1) rfl (by kernel_rfl)
  obtain ⟨y4, r4, k4⟩ := field_reads (reads_int Tryz.underlying3) hf hlen 4 rfl (o := 4) (s := 1) rfl (by kernel_rfl)
  have hl2 : cs.length = 5 := hl.trans (by kernel_rfl)
  refine ⟨⟨y0, y1, y2, y3, y4⟩, ⟨_, _, _, _, _, ?_, r0, r1, r2, r3, r4⟩, k0, k1, k2, k3, k4⟩
  exact (cutc cs 0 1).trans (congrArg (_ ++ ·) ((cutc cs 1 1).trans (congrArg (_ ++ ·) ((cutc cs 2 1).trans (congrArg (_ ++ ·) ((cutc cs 3 1).trans (congrArg (_ ++ ·) (cutl (o := 4) (s := 1) hl2))))))))
end Go.Proofs.YtbfmbiapjgpfhaaGreatDoor
