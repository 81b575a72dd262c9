/- What the table of types says. -/
import Derived.Test.YtajmekjcnbmaaaaRows
import Derived.Test.YtajmekjcnbmaaaaLxEntry
import Derived.Test.YtajmekjcnbmaaaaLxOrd
import Derived.Test.YtajmekjcnbmaaaaLxLaid
import Derived.Test.YtajmekjcnbmaaaaMod
set_option linter.unusedVariables false
set_option linter.unusedSimpArgs false
namespace Go.Proofs.Ytajmekjcnbmaaaa
open Go.Lx Go.RowKit
theorem mo : Try.prog.follows .mixedOrders = true := by kernel_rfl
theorem ti3 : TyI Try.prog 3 false 1 8 (Value.int .i64 0) := ty_of (by kernel_rfl) (by kernel_rfl)
theorem ti4 : TyI Try.prog 4 false 1 1 (Value.bool false) := ty_of (by kernel_rfl) (by kernel_rfl)
theorem ti5 : TyI Try.prog 5 false 1 1 (Value.int .u8 0) := ty_of (by kernel_rfl) (by kernel_rfl)
theorem ti22 : TyI Try.prog 22 false 1 24 (.slice none 0 0) := ty_of (by kernel_rfl) (by kernel_rfl)
theorem ti23 : TyI Try.prog 23 false 1 24 (.slice none 0 0) := ty_of (by kernel_rfl) (by kernel_rfl)
theorem ti25 : TyI Try.prog 25 true 4 64 (Value.agg (List.toArray (α := Value) [Value.int .i64 0, Value.int .i64 0, .slice none 0 0, .slice none 0 0])) := ty_of (by kernel_rfl) (by kernel_rfl)
theorem ti37 : TyI Try.prog 37 false 1 24 (.slice none 0 0) := ty_of (by kernel_rfl) (by kernel_rfl)
theorem ti46 : TyI Try.prog 46 false 1 8 (Value.int .u64 0) := ty_of (by kernel_rfl) (by kernel_rfl)
theorem ti48 : TyI Try.prog 48 true 4 32 (encV .u64 (Vec.zero 4)) := ty_of (by kernel_rfl) (by kernel_rfl)
theorem ti50 : TyI Try.prog 50 true 6 64 (Value.agg (List.toArray (α := Value) (([Value.int .i64 0]) ++ (((Vec.zero 4).1.map (Value.int .u64)) ++ ([.slice none 0 0]))))) := ty_of (by kernel_rfl) (by kernel_rfl)
theorem ti54 : TyI Try.prog 54 true 7 56 (Value.agg (List.toArray (α := Value) (([Value.int .i64 0]) ++ (([Value.int .i64 0]) ++ (([Value.bool false]) ++ ((Vec.zero 4).1.map (Value.int .u64))))))) := ty_of (by kernel_rfl) (by kernel_rfl)
theorem ti56 : TyI Try.prog 56 false 1 24 (.slice none 0 0) := ty_of (by kernel_rfl) (by kernel_rfl)
theorem ti64 : TyI Try.prog 64 false 1 8 (Value.map none) := ty_of (by kernel_rfl) (by kernel_rfl)
theorem ti65 : TyI Try.prog 65 false 1 24 (.slice none 0 0) := ty_of (by kernel_rfl) (by kernel_rfl)
theorem ti66 : TyI Try.prog 66 false 1 24 (.slice none 0 0) := ty_of (by kernel_rfl) (by kernel_rfl)
theorem ti70 : TyI Try.prog 70 true 3 56 (Value.agg (List.toArray (α := Value) [Value.bool false, .slice none 0 0, .slice none 0 0])) := ty_of (by kernel_rfl) (by kernel_rfl)
theorem ti78 : TyI Try.prog 78 false 1 24 (.slice none 0 0) := ty_of (by kernel_rfl) (by kernel_rfl)
theorem ti82 : TyI Try.prog 82 true 3 56 (Value.agg (List.toArray (α := Value) [Value.bool false, .slice none 0 0, .slice none 0 0])) := ty_of (by kernel_rfl) (by kernel_rfl)
theorem ti84 : TyI Try.prog 84 true 2 16 (encV .i64 (Vec.zero 2)) := ty_of (by kernel_rfl) (by kernel_rfl)
theorem eg48 : Try.prog.eqGuardType Try.prog.depth 48 = false := by kernel_rfl
theorem eg54 : Try.prog.eqGuardType Try.prog.depth 54 = false := by kernel_rfl
theorem conc9 : Try.prog.concrete 9 = true := by kernel_rfl
theorem cf11 : CF Try.prog 11 := cf_of Try.func11 rfl (by decide)
theorem cf12 : CF Try.prog 12 := cf_of Try.func12 rfl (by decide)
theorem cf13 : CF Try.prog 13 := cf_of Try.func13 rfl (by decide)
theorem cf14 : CF Try.prog 14 := cf_of Try.func14 rfl (by decide)
theorem cf15 : CF Try.prog 15 := cf_of Try.func15 rfl (by decide)
theorem cf16 : CF Try.prog 16 := cf_of Try.func16 rfl (by decide)
theorem cf17 : CF Try.prog 17 := cf_of Try.func17 rfl (by decide)
theorem cf18 : CF Try.prog 18 := cf_of Try.func18 rfl (by decide)
theorem cf19 : CF Try.prog 19 := cf_of Try.func19 rfl (by decide)
theorem cf20 : CF Try.prog 20 := cf_of Try.func20 rfl (by decide)
theorem cf21 : CF Try.prog 21 := cf_of Try.func21 rfl (by decide)
theorem cf22 : CF Try.prog 22 := cf_of Try.func22 rfl (by decide)
theorem cf23 : CF Try.prog 23 := cf_of Try.func23 rfl (by decide)
theorem cf24 : CF Try.prog 24 := cf_of Try.func24 rfl (by decide)
theorem cf25 : CF Try.prog 25 := cf_of Try.func25 rfl (by decide)
theorem cf26 : CF Try.prog 26 := cf_of Try.func26 rfl (by decide)
theorem cf27 : CF Try.prog 27 := cf_of Try.func27 rfl (by decide)
theorem cf28 : CF Try.prog 28 := cf_of Try.func28 rfl (by decide)
theorem cf29 : CF Try.prog 29 := cf_of Try.func29 rfl (by decide)
theorem cf30 : CF Try.prog 30 := cf_of Try.func30 rfl (by decide)
theorem cf31 : CF Try.prog 31 := cf_of Try.func31 rfl (by decide)
theorem cf32 : CF Try.prog 32 := cf_of Try.func32 rfl (by decide)
theorem cf33 : CF Try.prog 33 := cf_of Try.func33 rfl (by decide)
theorem cf34 : CF Try.prog 34 := cf_of Try.func34 rfl (by decide)
theorem cf35 : CF Try.prog 35 := cf_of Try.func35 rfl (by decide)
theorem cf36 : CF Try.prog 36 := cf_of Try.func36 rfl (by decide)
theorem cf37 : CF Try.prog 37 := cf_of Try.func37 rfl (by decide)
theorem cf38 : CF Try.prog 38 := cf_of Try.func38 rfl (by decide)
theorem cf39 : CF Try.prog 39 := cf_of Try.func39 rfl (by decide)
theorem cf40 : CF Try.prog 40 := cf_of Try.func40 rfl (by decide)
theorem cf41 : CF Try.prog 41 := cf_of Try.func41 rfl (by decide)
theorem cf42 : CF Try.prog 42 := cf_of Try.func42 rfl (by decide)
theorem cf43 : CF Try.prog 43 := cf_of Try.func43 rfl (by decide)
theorem cf44 : CF Try.prog 44 := cf_of Try.func44 rfl (by decide)
theorem cf45 : CF Try.prog 45 := cf_of Try.func45 rfl (by decide)
theorem cf46 : CF Try.prog 46 := cf_of Try.func46 rfl (by decide)
theorem cf47 : CF Try.prog 47 := cf_of Try.func47 rfl (by decide)
theorem cf48 : CF Try.prog 48 := cf_of Try.func48 rfl (by decide)
theorem cf49 : CF Try.prog 49 := cf_of Try.func49 rfl (by decide)
theorem cf50 : CF Try.prog 50 := cf_of Try.func50 rfl (by decide)
theorem cf51 : CF Try.prog 51 := cf_of Try.func51 rfl (by decide)
theorem cf52 : CF Try.prog 52 := cf_of Try.func52 rfl (by decide)
theorem cf53 : CF Try.prog 53 := cf_of Try.func53 rfl (by decide)
theorem cf54 : CF Try.prog 54 := cf_of Try.func54 rfl (by decide)
theorem cf55 : CF Try.prog 55 := cf_of Try.func55 rfl (by decide)
theorem cf56 : CF Try.prog 56 := cf_of Try.func56 rfl (by decide)
theorem cf57 : CF Try.prog 57 := cf_of Try.func57 rfl (by decide)
theorem cf61 : CF Try.prog 61 := cf_of Try.func61 rfl (by decide)
theorem cf62 : CF Try.prog 62 := cf_of Try.func62 rfl (by decide)
theorem cf63 : CF Try.prog 63 := cf_of Try.func63 rfl (by decide)
theorem cf67 : CF Try.prog 67 := cf_of Try.func67 rfl (by decide)
theorem cf68 : CF Try.prog 68 := cf_of Try.func68 rfl (by decide)
open Go.ChangeShapes Go.WideShapes Go.ChangeAt
def okT_NFAArc (x : T_NFAArc) : Prop := (IOk .i64) x.From ∧ (IOk .i64) x.To ∧ (fun _ => True) x.Epsilon ∧ (fun v => ∀ x ∈ v.1, IOk .u64 x) x.Set
set_option maxRecDepth 100000 in
theorem readsT_NFAArc : Reads Try.prog 54 tT_NFAArc okT_NFAArc := by
  intro H enc w f cs x h
  obtain ⟨_, _, _, _, hl, hlen, hf⟩ := DataW.trod_struct Try.underlying54 h
  obtain ⟨y0, r0, k0⟩ := field_reads (reads_int Try.underlying3) hf hlen 0 rfl (o := 0) (s := 1) rfl (by kernel_rfl)
  obtain ⟨y1, r1, k1⟩ := field_reads (reads_int Try.underlying3) hf hlen 1 rfl (o := 1) (s := 1) rfl (by kernel_rfl)
  obtain ⟨y2, r2, k2⟩ := field_reads (reads_bool Try.underlying4) hf hlen 2 rfl (o := 2) (s := 1) rfl (by kernel_rfl)
  obtain ⟨y3, r3, k3⟩ := field_reads (reads_vec Try.underlying48 Try.underlying46 (by kernel_rfl) (by kernel_rfl)) hf hlen 3 rfl (o := 3) (s := 4) rfl (by kernel_rfl)
  have hl2 : cs.length = 7 := hl.trans (by kernel_rfl)
  refine ⟨⟨y0, y1, y2, y3⟩, ⟨_, _, _, _, ?_, r0, r1, r2, r3⟩, k0, k1, k2, k3⟩
  exact (cutc cs 0 1).trans (congrArg (_ ++ ·) ((cutc cs 1 1).trans (congrArg (_ ++ ·) ((cutc cs 2 1).trans (congrArg (_ ++ ·) (cutl (o := 3) (s := 4) hl2))))))
def okT_NFA (x : T_NFA) : Prop := (IOk .i64) x.States ∧ (IOk .i64) x.Start ∧ (fun l => (∀ x ∈ l, okT_NFAArc x) ∧ l.length ≤ maxLen) x.Arcs ∧ (fun l => (∀ x ∈ l, (IOk .i64) x) ∧ l.length ≤ maxLen) x.Accept
set_option maxRecDepth 100000 in
theorem readsT_NFA : Reads Try.prog 25 tT_NFA okT_NFA := by
  intro H enc w f cs x h
  obtain ⟨_, _, _, _, hl, hlen, hf⟩ := DataW.trod_struct Try.underlying25 h
  obtain ⟨y0, r0, k0⟩ := field_reads (reads_int Try.underlying3) hf hlen 0 rfl (o := 0) (s := 1) rfl (by kernel_rfl)
  obtain ⟨y1, r1, k1⟩ := field_reads (reads_int Try.underlying3) hf hlen 1 rfl (o := 1) (s := 1) rfl (by kernel_rfl)
  obtain ⟨y2, r2, k2⟩ := field_reads (reads_slice Try.underlying22 (by kernel_rfl) (by decide) readsT_NFAArc) hf hlen 2 rfl (o := 2) (s := 1) rfl (by kernel_rfl)
  obtain ⟨y3, r3, k3⟩ := field_reads (reads_slice Try.underlying23 (by kernel_rfl) (by decide) (reads_int Try.underlying3)) hf hlen 3 rfl (o := 3) (s := 1) rfl (by kernel_rfl)
  have hl2 : cs.length = 4 := hl.trans (by kernel_rfl)
  refine ⟨⟨y0, y1, y2, y3⟩, ⟨_, _, _, _, ?_, r0, r1, r2, r3⟩, k0, k1, k2, k3⟩
  exact (cutc cs 0 1).trans (congrArg (_ ++ ·) ((cutc cs 1 1).trans (congrArg (_ ++ ·) ((cutc cs 2 1).trans (congrArg (_ ++ ·) (cutl (o := 3) (s := 1) hl2))))))
inductive okT_Regex : T_Regex → Prop where
  | mk (x : T_Regex) : (IOk .i64) x.Kind → (fun v => ∀ x ∈ v.1, IOk .u64 x) x.Set → (∀ y ∈ x.Kids, okT_Regex y) → x.Kids.length ≤ maxLen → okT_Regex x
set_option maxRecDepth 100000 in
theorem readsT_Regex : Reads Try.prog 50 tT_Regex okT_Regex := by
  refine .of fun f => ?_
  induction f using Nat.strongRecOn with
  | _ f ih =>
  intro H enc w cs x h
  obtain ⟨_, m, hfm, _, hl, hlen, hf⟩ := DataW.trod_struct Try.underlying50 h
  obtain ⟨y0, r0, k0⟩ := field_readsAt ((reads_int Try.underlying3).at m) hf hlen 0 rfl (o := 0) (s := 1) rfl (by kernel_rfl)
  obtain ⟨y1, r1, k1⟩ := field_readsAt ((reads_vec Try.underlying48 Try.underlying46 (by kernel_rfl) (by kernel_rfl)).at m) hf hlen 1 rfl (o := 1) (s := 4) rfl (by kernel_rfl)
  obtain ⟨y2, r2, k2⟩ := field_readsAt (reads_sliceAt Try.underlying37 (by kernel_rfl) (by decide) fun k hk => ih k (by omega)) hf hlen 2 rfl (o := 5) (s := 1) rfl (by kernel_rfl)
  have hl2 : cs.length = 6 := hl.trans (by kernel_rfl)
  refine ⟨⟨y0, y1, y2⟩, tT_Regex_iff.2 ⟨_, _, _, ?_, r0, r1, r2⟩, .mk _ k0 k1 k2.1 k2.2⟩
  exact (cutc cs 0 1).trans (congrArg (_ ++ ·) ((cutc cs 1 4).trans (congrArg (_ ++ ·) (cutl (o := 5) (s := 1) hl2))))
end Go.Proofs.Ytajmekjcnbmaaaa
