/- What the table of types says. -/
import Derived.Test.YtffienmbeifioaaDoorRows
import Derived.Test.YtffienmbeifioaaDoorLxEntry
import Derived.Test.YtffienmbeifioaaDoorLxOrd
import Derived.Test.YtffienmbeifioaaDoorLxLaid
import Derived.Test.YtffienmbeifioaaDoorMod
import Derived.Test.YtffienmbeifioaaDoorCards
import Derived.Test.YtffienmbeifioaaDoorTie
import Derived.SevenTiedAt
import Derived.ChangeVars
import Derived.LaidHandle
import Derived.Handed
import Derived.JoinedOf
set_option linter.unusedVariables false
set_option linter.unusedSimpArgs false
namespace Go.Proofs.YtffienmbeifioaaDoor
open Go.Lx Go.RowKit
theorem mo : Tryd.prog.follows .mixedOrders = true := by kernel_rfl
theorem ti3 : TyI Tryd.prog 3 false 1 8 (Value.int .i64 0) := ty_of (by kernel_rfl) (by kernel_rfl)
theorem ti4 : TyI Tryd.prog 4 false 1 1 (Value.bool false) := ty_of (by kernel_rfl) (by kernel_rfl)
theorem ti5 : TyI Tryd.prog 5 false 1 1 (Value.int .u8 0) := ty_of (by kernel_rfl) (by kernel_rfl)
theorem ti9 : TyI Tryd.prog 9 false 1 16 (encS []) := ty_of (by kernel_rfl) (by kernel_rfl)
theorem ti22 : TyI Tryd.prog 22 false 1 8 (Value.int .u64 0) := ty_of (by kernel_rfl) (by kernel_rfl)
theorem ti24 : TyI Tryd.prog 24 true 4 32 (encV .u64 (Vec.zero 4)) := ty_of (by kernel_rfl) (by kernel_rfl)
theorem ti25 : TyI Tryd.prog 25 false 1 24 (.slice none 0 0) := ty_of (by kernel_rfl) (by kernel_rfl)
theorem ti27 : TyI Tryd.prog 27 true 6 64 (Value.agg (List.toArray (α := Value) (([Value.int .i64 0]) ++ (((Vec.zero 4).1.map (Value.int .u64)) ++ ([.slice none 0 0]))))) := ty_of (by kernel_rfl) (by kernel_rfl)
theorem ti31 : TyI Tryd.prog 31 false 1 8 (Value.int .i64 0) := ty_of (by kernel_rfl) (by kernel_rfl)
theorem ti39 : TyI Tryd.prog 39 false 1 24 (.slice none 0 0) := ty_of (by kernel_rfl) (by kernel_rfl)
theorem eg24 : Tryd.prog.eqGuardType Tryd.prog.depth 24 = false := by kernel_rfl
theorem conc45 : Tryd.prog.concrete 45 = true := by kernel_rfl
theorem cf12 : CF Tryd.prog 12 := cf_of Tryd.func12 rfl (by decide)
theorem cf13 : CF Tryd.prog 13 := cf_of Tryd.func13 rfl (by decide)
theorem cf14 : CF Tryd.prog 14 := cf_of Tryd.func14 rfl (by decide)
theorem cf15 : CF Tryd.prog 15 := cf_of Tryd.func15 rfl (by decide)
theorem cf16 : CF Tryd.prog 16 := cf_of Tryd.func16 rfl (by decide)
theorem cf17 : CF Tryd.prog 17 := cf_of Tryd.func17 rfl (by decide)
theorem cf18 : CF Tryd.prog 18 := cf_of Tryd.func18 rfl (by decide)
theorem cf19 : CF Tryd.prog 19 := cf_of Tryd.func19 rfl (by decide)
theorem cf20 : CF Tryd.prog 20 := cf_of Tryd.func20 rfl (by decide)
theorem cf21 : CF Tryd.prog 21 := cf_of Tryd.func21 rfl (by decide)
theorem cf22 : CF Tryd.prog 22 := cf_of Tryd.func22 rfl (by decide)
theorem cf23 : CF Tryd.prog 23 := cf_of Tryd.func23 rfl (by decide)
theorem cf24 : CF Tryd.prog 24 := cf_of Tryd.func24 rfl (by decide)
theorem cf25 : CF Tryd.prog 25 := cf_of Tryd.func25 rfl (by decide)
theorem cf26 : CF Tryd.prog 26 := cf_of Tryd.func26 rfl (by decide)
theorem cf27 : CF Tryd.prog 27 := cf_of Tryd.func27 rfl (by decide)
theorem cf28 : CF Tryd.prog 28 := cf_of Tryd.func28 rfl (by decide)
theorem cf29 : CF Tryd.prog 29 := cf_of Tryd.func29 rfl (by decide)
theorem cf30 : CF Tryd.prog 30 := cf_of Tryd.func30 rfl (by decide)
theorem cf31 : CF Tryd.prog 31 := cf_of Tryd.func31 rfl (by decide)
theorem cf32 : CF Tryd.prog 32 := cf_of Tryd.func32 rfl (by decide)
theorem cf33 : CF Tryd.prog 33 := cf_of Tryd.func33 rfl (by decide)
theorem cf34 : CF Tryd.prog 34 := cf_of Tryd.func34 rfl (by decide)
theorem cf35 : CF Tryd.prog 35 := cf_of Tryd.func35 rfl (by decide)
theorem cf36 : CF Tryd.prog 36 := cf_of Tryd.func36 rfl (by decide)
theorem cf37 : CF Tryd.prog 37 := cf_of Tryd.func37 rfl (by decide)
theorem cf38 : CF Tryd.prog 38 := cf_of Tryd.func38 rfl (by decide)
theorem cf39 : CF Tryd.prog 39 := cf_of Tryd.func39 rfl (by decide)
theorem cf40 : CF Tryd.prog 40 := cf_of Tryd.func40 rfl (by decide)
theorem cf41 : CF Tryd.prog 41 := cf_of Tryd.func41 rfl (by decide)
theorem cf42 : CF Tryd.prog 42 := cf_of Tryd.func42 rfl (by decide)
theorem cf43 : CF Tryd.prog 43 := cf_of Tryd.func43 rfl (by decide)
theorem cf44 : CF Tryd.prog 44 := cf_of Tryd.func44 rfl (by decide)
theorem cf45 : CF Tryd.prog 45 := cf_of Tryd.func45 rfl (by decide)
theorem cf46 : CF Tryd.prog 46 := cf_of Tryd.func46 rfl (by decide)
theorem cf47 : CF Tryd.prog 47 := cf_of Tryd.func47 rfl (by decide)
theorem cf48 : CF Tryd.prog 48 := cf_of Tryd.func48 rfl (by decide)
theorem cf49 : CF Tryd.prog 49 := cf_of Tryd.func49 rfl (by decide)
theorem cf50 : CF Tryd.prog 50 := cf_of Tryd.func50 rfl (by decide)
theorem cf51 : CF Tryd.prog 51 := cf_of Tryd.func51 rfl (by decide)
theorem cf52 : CF Tryd.prog 52 := cf_of Tryd.func52 rfl (by decide)
theorem cf53 : CF Tryd.prog 53 := cf_of Tryd.func53 rfl (by decide)
theorem cf54 : CF Tryd.prog 54 := cf_of Tryd.func54 rfl (by decide)
theorem cf55 : CF Tryd.prog 55 := cf_of Tryd.func55 rfl (by decide)
theorem cf56 : CF Tryd.prog 56 := cf_of Tryd.func56 rfl (by decide)
theorem cf57 : CF Tryd.prog 57 := cf_of Tryd.func57 rfl (by decide)
theorem cf61 : CF Tryd.prog 61 := cf_of Tryd.func61 rfl (by decide)
theorem cf62 : CF Tryd.prog 62 := cf_of Tryd.func62 rfl (by decide)
theorem cf63 : CF Tryd.prog 63 := cf_of Tryd.func63 rfl (by decide)
theorem cf64 : CF Tryd.prog 64 := cf_of Tryd.func64 rfl (by decide)
theorem cf65 : CF Tryd.prog 65 := cf_of Tryd.func65 rfl (by decide)
theorem cf66 : CF Tryd.prog 66 := cf_of Tryd.func66 rfl (by decide)
theorem cf67 : CF Tryd.prog 67 := cf_of Tryd.func67 rfl (by decide)
theorem cf68 : CF Tryd.prog 68 := cf_of Tryd.func68 rfl (by decide)
theorem cf69 : CF Tryd.prog 69 := cf_of Tryd.func69 rfl (by decide)
theorem cf72 : CF Tryd.prog 72 := cf_of Tryd.func72 rfl (by decide)
theorem cf73 : CF Tryd.prog 73 := cf_of Tryd.func73 rfl (by decide)
theorem cf74 : CF Tryd.prog 74 := cf_of Tryd.func74 rfl (by decide)
theorem cf75 : CF Tryd.prog 75 := cf_of Tryd.func75 rfl (by decide)
theorem cf76 : CF Tryd.prog 76 := cf_of Tryd.func76 rfl (by decide)
theorem cf77 : CF Tryd.prog 77 := cf_of Tryd.func77 rfl (by decide)
theorem cf78 : CF Tryd.prog 78 := cf_of Tryd.func78 rfl (by decide)
theorem cf82 : CF Tryd.prog 82 := cf_of Tryd.func82 rfl (by decide)
theorem cf83 : CF Tryd.prog 83 := cf_of Tryd.func83 rfl (by decide)
theorem cf84 : CF Tryd.prog 84 := cf_of Tryd.func84 rfl (by decide)
theorem cf85 : CF Tryd.prog 85 := cf_of Tryd.func85 rfl (by decide)
theorem cf86 : CF Tryd.prog 86 := cf_of Tryd.func86 rfl (by decide)
theorem cf87 : CF Tryd.prog 87 := cf_of Tryd.func87 rfl (by decide)
theorem cf88 : CF Tryd.prog 88 := cf_of Tryd.func88 rfl (by decide)
theorem cf90 : CF Tryd.prog 90 := cf_of Tryd.func90 rfl (by decide)
theorem cf91 : CF Tryd.prog 91 := cf_of Tryd.func91 rfl (by decide)
theorem cf92 : CF Tryd.prog 92 := cf_of Tryd.func92 rfl (by decide)
theorem cf93 : CF Tryd.prog 93 := cf_of Tryd.func93 rfl (by decide)
theorem cf94 : CF Tryd.prog 94 := cf_of Tryd.func94 rfl (by decide)
open Go.ChangeShapes Go.WideShapes Go.ChangeAt
inductive okT_Regex : T_Regex → Prop where
  | mk (x : T_Regex) : (IOk .i64) x.Kind → (fun v => ∀ x ∈ v.1, IOk .u64 x) x.Set → (∀ y ∈ x.Kids, okT_Regex y) → x.Kids.length ≤ maxLen → okT_Regex x
theorem readsT_Regex : Reads Tryd.prog 27 tT_Regex okT_Regex := by
  refine .of fun f => ?_
  induction f using Nat.strongRecOn with
  | _ f ih =>
  intro H enc w cs x h
  obtain ⟨_, m, hfm, _, hl, hlen, hf⟩ := DataW.trod_struct Tryd.underlying27 h
  obtain ⟨y0, r0, k0⟩ := field_readsAt ((reads_int Tryd.underlying3).at m) hf hlen 0 rfl (o := 0) (s := 1) rfl (by kernel_rfl)
  obtain ⟨y1, r1, k1⟩ := field_readsAt ((reads_vec Tryd.underlying24 Tryd.underlying22 (by kernel_rfl) (by kernel_rfl)).at m) hf hlen 1 rfl (o := 1) (s := 4) rfl (by kernel_rfl)
  obtain ⟨y2, r2, k2⟩ := field_readsAt (reads_sliceAt Tryd.underlying25 (by kernel_rfl) (by decide) fun k hk => ih k (by omega)) hf hlen 2 rfl (o := 5) (s := 1) rfl (by kernel_rfl)
  have hl2 : cs.length = 6 := hl.trans (by kernel_rfl)
  refine ⟨⟨y0, y1, y2⟩, tT_Regex_iff.2 ⟨_, _, _, ?_, r0, r1, r2⟩, .mk _ k0 k1 k2.1 k2.2⟩
  exact (cutc cs 0 1).trans (congrArg (_ ++ ·) ((cutc cs 1 4).trans (congrArg (_ ++ ·) (cutl (o := 5) (s := 1) hl2))))
end Go.Proofs.YtffienmbeifioaaDoor
