/- What the table of types says. -/
import Derived.Test.YtogpainomdfpnaaRows
import Derived.Test.YtogpainomdfpnaaLxEntry
import Derived.Test.YtogpainomdfpnaaLxOrd
import Derived.Test.YtogpainomdfpnaaLxLaid
import Derived.Test.YtogpainomdfpnaaMod
set_option linter.unusedVariables false
set_option linter.unusedSimpArgs false
namespace Go.Proofs.Ytogpainomdfpnaa
open Go.Lx Go.RowKit
theorem mo : Try.prog.follows .mixedOrders = true := by kernel_rfl
theorem ti3 : TyI Try.prog 3 false 1 8 (Value.int .i64 0) := ty_of (by kernel_rfl) (by kernel_rfl)
theorem ti4 : TyI Try.prog 4 false 1 1 (Value.bool false) := ty_of (by kernel_rfl) (by kernel_rfl)
theorem ti5 : TyI Try.prog 5 false 1 1 (Value.int .u8 0) := ty_of (by kernel_rfl) (by kernel_rfl)
theorem ti9 : TyI Try.prog 9 false 1 16 (encS []) := ty_of (by kernel_rfl) (by kernel_rfl)
theorem ti22 : TyI Try.prog 22 false 1 24 (.slice none 0 0) := ty_of (by kernel_rfl) (by kernel_rfl)
theorem ti23 : TyI Try.prog 23 false 1 24 (.slice none 0 0) := ty_of (by kernel_rfl) (by kernel_rfl)
theorem ti25 : TyI Try.prog 25 true 3 72 (Value.agg (List.toArray (α := Value) [.slice none 0 0, .slice none 0 0, .slice none 0 0])) := ty_of (by kernel_rfl) (by kernel_rfl)
theorem ti39 : TyI Try.prog 39 false 1 24 (.slice none 0 0) := ty_of (by kernel_rfl) (by kernel_rfl)
theorem ti41 : TyI Try.prog 41 true 4 64 (Value.agg (List.toArray (α := Value) [Value.int .i64 0, Value.int .i64 0, .slice none 0 0, .slice none 0 0])) := ty_of (by kernel_rfl) (by kernel_rfl)
theorem ti64 : TyI Try.prog 64 true 2 16 (Value.agg (List.toArray (α := Value) [Value.int .i64 0, Value.int .i64 0])) := ty_of (by kernel_rfl) (by kernel_rfl)
theorem ti66 : TyI Try.prog 66 true 3 32 (Value.agg (List.toArray (α := Value) (([Value.int .i64 0, Value.int .i64 0]) ++ ([encS []])))) := ty_of (by kernel_rfl) (by kernel_rfl)
theorem ti68 : TyI Try.prog 68 true 0 0 (Value.agg (List.toArray (α := Value) [])) := ty_of (by kernel_rfl) (by kernel_rfl)
theorem ti75 : TyI Try.prog 75 false 1 8 (Value.int .u64 0) := ty_of (by kernel_rfl) (by kernel_rfl)
theorem ti77 : TyI Try.prog 77 true 4 32 (encV .u64 (Vec.zero 4)) := ty_of (by kernel_rfl) (by kernel_rfl)
theorem ti79 : TyI Try.prog 79 true 7 56 (Value.agg (List.toArray (α := Value) (([Value.int .i64 0]) ++ (([Value.int .i64 0]) ++ (([Value.bool false]) ++ ((Vec.zero 4).1.map (Value.int .u64))))))) := ty_of (by kernel_rfl) (by kernel_rfl)
theorem ti88 : TyI Try.prog 88 false 1 24 (.slice none 0 0) := ty_of (by kernel_rfl) (by kernel_rfl)
theorem eg77 : Try.prog.eqGuardType Try.prog.depth 77 = false := by kernel_rfl
theorem cf9 : CF Try.prog 9 := cf_of Try.func9 rfl (by decide)
theorem cf10 : CF Try.prog 10 := cf_of Try.func10 rfl (by decide)
theorem cf11 : CF Try.prog 11 := cf_of Try.func11 rfl (by decide)
theorem cf12 : CF Try.prog 12 := cf_of Try.func12 rfl (by decide)
theorem cf15 : CF Try.prog 15 := cf_of Try.func15 rfl (by decide)
theorem cf16 : CF Try.prog 16 := cf_of Try.func16 rfl (by decide)
theorem cf17 : CF Try.prog 17 := cf_of Try.func17 rfl (by decide)
theorem cf19 : CF Try.prog 19 := cf_of Try.func19 rfl (by decide)
theorem cf20 : CF Try.prog 20 := cf_of Try.func20 rfl (by decide)
theorem cf21 : CF Try.prog 21 := cf_of Try.func21 rfl (by decide)
theorem cf22 : CF Try.prog 22 := cf_of Try.func22 rfl (by decide)
theorem cf23 : CF Try.prog 23 := cf_of Try.func23 rfl (by decide)
theorem cf24 : CF Try.prog 24 := cf_of Try.func24 rfl (by decide)
theorem cf25 : CF Try.prog 25 := cf_of Try.func25 rfl (by decide)
theorem cf26 : CF Try.prog 26 := cf_of Try.func26 rfl (by decide)
theorem cf27 : CF Try.prog 27 := cf_of Try.func27 rfl (by decide)
theorem cf28 : CF Try.prog 28 := cf_of Try.func28 rfl (by decide)
theorem cf29 : CF Try.prog 29 := cf_of Try.func29 rfl (by decide)
theorem cf30 : CF Try.prog 30 := cf_of Try.func30 rfl (by decide)
theorem cf33 : CF Try.prog 33 := cf_of Try.func33 rfl (by decide)
theorem cf34 : CF Try.prog 34 := cf_of Try.func34 rfl (by decide)
theorem cf35 : CF Try.prog 35 := cf_of Try.func35 rfl (by decide)
theorem cf36 : CF Try.prog 36 := cf_of Try.func36 rfl (by decide)
theorem cf37 : CF Try.prog 37 := cf_of Try.func37 rfl (by decide)
theorem cf38 : CF Try.prog 38 := cf_of Try.func38 rfl (by decide)
theorem cf39 : CF Try.prog 39 := cf_of Try.func39 rfl (by decide)
theorem cf40 : CF Try.prog 40 := cf_of Try.func40 rfl (by decide)
theorem cf41 : CF Try.prog 41 := cf_of Try.func41 rfl (by decide)
theorem cf42 : CF Try.prog 42 := cf_of Try.func42 rfl (by decide)
theorem cf43 : CF Try.prog 43 := cf_of Try.func43 rfl (by decide)
theorem cf44 : CF Try.prog 44 := cf_of Try.func44 rfl (by decide)
theorem cf45 : CF Try.prog 45 := cf_of Try.func45 rfl (by decide)
theorem cf46 : CF Try.prog 46 := cf_of Try.func46 rfl (by decide)
theorem cf47 : CF Try.prog 47 := cf_of Try.func47 rfl (by decide)
theorem cf48 : CF Try.prog 48 := cf_of Try.func48 rfl (by decide)
theorem cf49 : CF Try.prog 49 := cf_of Try.func49 rfl (by decide)
theorem cf50 : CF Try.prog 50 := cf_of Try.func50 rfl (by decide)
theorem cf51 : CF Try.prog 51 := cf_of Try.func51 rfl (by decide)
theorem cf52 : CF Try.prog 52 := cf_of Try.func52 rfl (by decide)
theorem cf53 : CF Try.prog 53 := cf_of Try.func53 rfl (by decide)
theorem cf54 : CF Try.prog 54 := cf_of Try.func54 rfl (by decide)
theorem cf55 : CF Try.prog 55 := cf_of Try.func55 rfl (by decide)
theorem cf56 : CF Try.prog 56 := cf_of Try.func56 rfl (by decide)
theorem cf57 : CF Try.prog 57 := cf_of Try.func57 rfl (by decide)
theorem cf58 : CF Try.prog 58 := cf_of Try.func58 rfl (by decide)
theorem cf59 : CF Try.prog 59 := cf_of Try.func59 rfl (by decide)
theorem cf60 : CF Try.prog 60 := cf_of Try.func60 rfl (by decide)
theorem cf61 : CF Try.prog 61 := cf_of Try.func61 rfl (by decide)
theorem cf62 : CF Try.prog 62 := cf_of Try.func62 rfl (by decide)
theorem cf63 : CF Try.prog 63 := cf_of Try.func63 rfl (by decide)
theorem cf64 : CF Try.prog 64 := cf_of Try.func64 rfl (by decide)
theorem cf65 : CF Try.prog 65 := cf_of Try.func65 rfl (by decide)
theorem cf66 : CF Try.prog 66 := cf_of Try.func66 rfl (by decide)
open Go.ChangeShapes Go.WideShapes Go.ChangeAt
def okT_NFAArc (x : T_NFAArc) : Prop := (IOk .i64) x.From ∧ (IOk .i64) x.To ∧ (fun _ => True) x.Epsilon ∧ (fun v => ∀ x ∈ v.1, IOk .u64 x) x.Set
theorem readsT_NFAArc : Reads Try.prog 79 tT_NFAArc okT_NFAArc := by
  intro H enc w f cs x h
  obtain ⟨_, _, _, _, hl, hlen, hf⟩ := DataW.trod_struct Try.underlying79 h
  obtain ⟨y0, r0, k0⟩ := field_reads (reads_int Try.underlying3) hf hlen 0 rfl (o := 0) (s := 1) rfl (by kernel_rfl)
  obtain ⟨y1, r1, k1⟩ := field_reads (reads_int Try.underlying3) hf hlen 1 rfl (o := 1) (s := 1) rfl (by kernel_rfl)
  obtain ⟨y2, r2, k2⟩ := field_reads (reads_bool Try.underlying4) hf hlen 2 rfl (o := 2) (s := 1) rfl (by kernel_rfl)
  obtain ⟨y3, r3, k3⟩ := field_reads (reads_vec Try.underlying77 Try.underlying75 (by kernel_rfl) (by kernel_rfl)) hf hlen 3 rfl (o := 3) (s := 4) rfl (by kernel_rfl)
  have hl2 : cs.length = 7 := hl.trans (by kernel_rfl)
  refine ⟨⟨y0, y1, y2, y3⟩, ⟨_, _, _, _, ?_, r0, r1, r2, r3⟩, k0, k1, k2, k3⟩
  exact (cutc cs 0 1).trans (congrArg (_ ++ ·) ((cutc cs 1 1).trans (congrArg (_ ++ ·) ((cutc cs 2 1).trans (congrArg (_ ++ ·) (cutl (o := 3) (s := 4) hl2))))))
def okT_NFA (x : T_NFA) : Prop := (IOk .i64) x.States ∧ (IOk .i64) x.Start ∧ (fun l => (∀ x ∈ l, okT_NFAArc x) ∧ l.length ≤ maxLen) x.Arcs ∧ (fun l => (∀ x ∈ l, (IOk .i64) x) ∧ l.length ≤ maxLen) x.Accept
theorem readsT_NFA : Reads Try.prog 41 tT_NFA okT_NFA := by
  intro H enc w f cs x h
  obtain ⟨_, _, _, _, hl, hlen, hf⟩ := DataW.trod_struct Try.underlying41 h
  obtain ⟨y0, r0, k0⟩ := field_reads (reads_int Try.underlying3) hf hlen 0 rfl (o := 0) (s := 1) rfl (by kernel_rfl)
  obtain ⟨y1, r1, k1⟩ := field_reads (reads_int Try.underlying3) hf hlen 1 rfl (o := 1) (s := 1) rfl (by kernel_rfl)
  obtain ⟨y2, r2, k2⟩ := field_reads (reads_slice Try.underlying39 (by kernel_rfl) (by decide) readsT_NFAArc) hf hlen 2 rfl (o := 2) (s := 1) rfl (by kernel_rfl)
  obtain ⟨y3, r3, k3⟩ := field_reads (reads_slice Try.underlying22 (by kernel_rfl) (by decide) (reads_int Try.underlying3)) hf hlen 3 rfl (o := 3) (s := 1) rfl (by kernel_rfl)
  have hl2 : cs.length = 4 := hl.trans (by kernel_rfl)
  refine ⟨⟨y0, y1, y2, y3⟩, ⟨_, _, _, _, ?_, r0, r1, r2, r3⟩, k0, k1, k2, k3⟩
  exact (cutc cs 0 1).trans (congrArg (_ ++ ·) ((cutc cs 1 1).trans (congrArg (_ ++ ·) ((cutc cs 2 1).trans (congrArg (_ ++ ·) (cutl (o := 3) (s := 1) hl2))))))
end Go.Proofs.Ytogpainomdfpnaa
