/- The walks: what each function does is what its model says. Printed by a program of my own. -/
import Derived.Test.YtffienmbeifioaaDoorTyp
import Derived.Test.YtffienmbeifioaaDoorWalk5
import Derived.Test.YtffienmbeifioaaDoorWalk11
import Derived.Test.YtffienmbeifioaaDoorWalk13
set_option linter.unusedVariables false
set_option linter.unusedSimpArgs false
namespace Go.Proofs.YtffienmbeifioaaDoor
open Go.Lx Go.RowKit
def C.ref08_parser_atom (fl : Nat) : Prop := ∀ {p1 : T_ref08_parser} {r : T_Regex × T_ref08_parser} (_ : M.ref08_parser_atom fl p1 = some r) {g0 : Hp} {w0 : World} {gi : Hp} {wi : World} {Lt : List Res} {b1 : Nat} (hs : Sep g0 w0 gi wi (Go.Lx.box b1 52 ([encS p1.s, Value.int .i64 p1.atv, Value.bool p1.bad]) :: Lt)),
    CallsV Tryd.prog 75 #[Value.pointer (some ⟨b1, 0, none⟩)] wi (fun v w' => ∃ g', (VRd tT_Regex true g' v r.1) ∧ Hle gi g' ∧ Sep g0 w0 g' w' (Go.Lx.box b1 52 ([encS r.2.s, Value.int .i64 r.2.atv, Value.bool r.2.bad]) :: Lt))
def C.ref08_parser_repeat (fl : Nat) : Prop := ∀ {p1 : T_ref08_parser} {r : T_Regex × T_ref08_parser} (_ : M.ref08_parser_repeat fl p1 = some r) {g0 : Hp} {w0 : World} {gi : Hp} {wi : World} {Lt : List Res} {b1 : Nat} (hs : Sep g0 w0 gi wi (Go.Lx.box b1 52 ([encS p1.s, Value.int .i64 p1.atv, Value.bool p1.bad]) :: Lt)),
    CallsV Tryd.prog 66 #[Value.pointer (some ⟨b1, 0, none⟩)] wi (fun v w' => ∃ g', (VRd tT_Regex true g' v r.1) ∧ Hle gi g' ∧ Sep g0 w0 g' w' (Go.Lx.box b1 52 ([encS r.2.s, Value.int .i64 r.2.atv, Value.bool r.2.bad]) :: Lt))
def C.ref08_parser_branch (fl : Nat) : Prop := ∀ {p1 : T_ref08_parser} {r : T_Regex × T_ref08_parser} (_ : M.ref08_parser_branch fl p1 = some r) {g0 : Hp} {w0 : World} {gi : Hp} {wi : World} {Lt : List Res} {b1 : Nat} (hs : Sep g0 w0 gi wi (Go.Lx.box b1 52 ([encS p1.s, Value.int .i64 p1.atv, Value.bool p1.bad]) :: Lt)),
    CallsV Tryd.prog 50 #[Value.pointer (some ⟨b1, 0, none⟩)] wi (fun v w' => ∃ g', (VRd tT_Regex true g' v r.1) ∧ Hle gi g' ∧ Sep g0 w0 g' w' (Go.Lx.box b1 52 ([encS r.2.s, Value.int .i64 r.2.atv, Value.bool r.2.bad]) :: Lt))
def C.ref08_parser_regex (fl : Nat) : Prop := ∀ {p1 : T_ref08_parser} {r : T_Regex × T_ref08_parser} (_ : M.ref08_parser_regex fl p1 = some r) {g0 : Hp} {w0 : World} {gi : Hp} {wi : World} {Lt : List Res} {b1 : Nat} (hs : Sep g0 w0 gi wi (Go.Lx.box b1 52 ([encS p1.s, Value.int .i64 p1.atv, Value.bool p1.bad]) :: Lt)),
    CallsV Tryd.prog 34 #[Value.pointer (some ⟨b1, 0, none⟩)] wi (fun v w' => ∃ g', (VRd tT_Regex true g' v r.1) ∧ Hle gi g' ∧ Sep g0 w0 g' w' (Go.Lx.box b1 52 ([encS r.2.s, Value.int .i64 r.2.atv, Value.bool r.2.bad]) :: Lt))
set_option maxRecDepth 100000 in
theorem ref08_parser_atom_step {fl : Nat} (ih_ref08_parser_regex : C.ref08_parser_regex fl) : C.ref08_parser_atom (fl + 1) := by
  intro p1 r hM g0 w0 gi wi Lt b1 hs
  unfold M.ref08_parser_atom at hM
  have hagi := Hle.refl gi
  refine calls_of_WP (args := [Value.pointer (some ⟨b1, 0, none⟩)]) Tryd.func75 rfl Tryd.ntmps75 rfl ?_
  have hds : (argEnv [Value.pointer (some ⟨b1, 0, none⟩)]).ds = [] := rfl
  refine WP_seq ?_
  refine WP_region ?_
  refine OW_alloc ti27 hs (zs := ([Value.int .i64 0]) ++ (((Vec.zero 4).1.map (Value.int .u64)) ++ ([Value.slice none 0 0]))) rfl rfl ?_
  intro b2 wv1 hs
  refine OW_nil ?_
  refine WP_seq ?_
  refine WP_seq ?_
  refine WP_region ?_
  refine O (r_move (v := Value.pointer (some ⟨b1, 0, none⟩)) rfl) rfl ?_
  have hs : Go.Lx.Sep g0 w0 gi _ (Go.Lx.box b1 52 ([encS p1.s, Value.int .i64 p1.atv, Value.bool p1.bad]) :: Go.Lx.box b2 27 (([Value.int .i64 0]) ++ (((Vec.zero 4).1.map (Value.int .u64)) ++ ([Value.slice none 0 0]))) :: Lt) := (Sep.selT (A := [Go.Lx.box b2 27 (([Value.int .i64 0]) ++ (((Vec.zero 4).1.map (Value.int .u64)) ++ ([Value.slice none 0 0]))), Go.Lx.box b1 52 ([encS p1.s, Value.int .i64 p1.atv, Value.bool p1.bad])]) (A' := [Go.Lx.box b1 52 ([encS p1.s, Value.int .i64 p1.atv, Value.bool p1.bad]), Go.Lx.box b2 27 (([Value.int .i64 0]) ++ (((Vec.zero 4).1.map (Value.int .u64)) ++ ([Value.slice none 0 0])))]) (L := Lt) hs [1, 0] (by decide) rfl)
  obtain ⟨rv1, hrv1, hM⟩ := bindS hM
  refine C [Value.pointer (some ⟨b1, 0, none⟩)] cf51 rfl (ref08_parser_next_ok hrv1 hs) rfl ?_
  rintro v1 wv2 ⟨gg1, hvv1, hlegg1, hs⟩
  replace hagi := hagi.trans hlegg1
  obtain ⟨cs1, rfl, hcs1⟩ := hvv1
  have hcs1 : cs1 = _ := hcs1; subst hcs1
  refine OW_nil ?_
  refine WP_block ?_
  refine WP_seq ?_
  refine WP_region ?_
  refine O (r_eql rfl rfl) rfl ?_
  refine O (r_assign (v := Value.bool (rv1 == 40)) rfl) rfl ?_
  refine OW_nil ?_
  rcases condS hM with ⟨hc1, hM⟩ | ⟨hc1, hM⟩
  · refine WP_true rfl hc1 ?_
    refine WP_seq ?_
    refine WP_region ?_
    refine O (r_move (v := Value.pointer (some ⟨b1, 0, none⟩)) rfl) rfl ?_
    refine O (r_nilCheck rfl) rfl ?_
    refine O (r_fieldAddr Tryd.underlying52 ti3 rfl rfl (by decide) rfl rfl) rfl ?_
    refine O (r_load (v := Value.int .i64 p1.atv) ti3 rfl (hs.cell (i := 0) (o := 1) rfl rfl)) rfl ?_
    obtain ⟨t1, ht1, hM⟩ := bindS hM
    refine O (r_addM rfl rfl ht1) rfl ?_
    refine O (r_nilCheck rfl) rfl ?_
    refine O (r_fieldAddr Tryd.underlying52 ti3 rfl rfl (by decide) rfl rfl) rfl ?_
    refine OW_store1 ti3 hs (i := 0) rfl rfl (v := Value.int .i64 t1) rfl rfl (o := 1) (by simp) ?_
    intro wv3 hs
    refine OW_nil ?_
    refine WP_seq ?_
    refine WP_region ?_
    refine O (r_move (v := Value.pointer (some ⟨b1, 0, none⟩)) rfl) rfl ?_
    obtain ⟨rv2, hrv2, hM⟩ := bindS hM
    refine C [Value.pointer (some ⟨b1, 0, none⟩)] cf34 rfl (ih_ref08_parser_regex hrv2 hs) rfl ?_
    rintro v2 wv4 ⟨gg2, hvv2, hlegg2, hs⟩
    replace hagi := hagi.trans hlegg2
    obtain ⟨cs2, rfl, hcs2⟩ := hvv2
    obtain ⟨cs3, cs4, cs5, rfl, hcs3, hcs4, hcs5⟩ := tT_Regex_iff.1 hcs2
    have hcs3 : cs3 = _ := hcs3; subst hcs3
    have hcs4 : cs4 = _ := hcs4; subst hcs4
    obtain ⟨v3, rfl, hRv3⟩ := hcs5
    refine OW_alloc ti27 hs (zs := ([Value.int .i64 0]) ++ (((Vec.zero 4).1.map (Value.int .u64)) ++ ([Value.slice none 0 0]))) rfl rfl ?_
    intro b3 wv5 hs
    refine OW_storeAll ti27 hs (i := 0) rfl rfl (v := Value.agg (List.toArray (α := Value) (([Value.int .i64 rv2.1.Kind]) ++ ((rv2.1.Set.1.map (Value.int .u64)) ++ ([v3]))))) rfl (vs := ([Value.int .i64 rv2.1.Kind]) ++ ((rv2.1.Set.1.map (Value.int .u64)) ++ ([v3]))) rfl (one_append (one_cons rfl one_nil) (one_append vec_one (one_cons (by obtain ⟨_, _, h9⟩ := hRv3.shape; rw [h9]; rfl) one_nil))) (by simp [rv2.1.Set.2]) (by simp [rv2.1.Set.2, (Vec.zero 4).2]) ?_
    intro wv6 hs
    refine OW_nil ?_
    refine WP_seq ?_
    refine WP_seq ?_
    refine WP_region ?_
    refine O (r_move (v := Value.pointer (some ⟨b1, 0, none⟩)) rfl) rfl ?_
    refine O (r_nilCheck rfl) rfl ?_
    refine O (r_fieldAddr Tryd.underlying52 ti4 rfl rfl (by decide) rfl rfl) rfl ?_
    refine O (r_load (v := Value.bool rv2.2.bad) ti4 rfl (hs.cell (i := 1) (o := 2) rfl rfl)) rfl ?_
    refine OW_nil ?_
    rcases condS hM with ⟨hc2, hM⟩ | ⟨hc2, hM⟩
    · refine WP_true rfl hc2 ?_
      refine WP_seq ?_
      refine WP_region ?_
      refine O (r_loadN (cs := ([Value.int .i64 rv2.1.Kind]) ++ ((rv2.1.Set.1.map (Value.int .u64)) ++ ([v3]))) ti27 rfl (by simp [rv2.1.Set.2]) (hs.cells (i := 0) rfl)) rfl ?_
      refine OW_storeAll ti27 hs (i := 2) rfl rfl (v := Value.agg (List.toArray (α := Value) (([Value.int .i64 rv2.1.Kind]) ++ ((rv2.1.Set.1.map (Value.int .u64)) ++ ([v3]))))) rfl (vs := ([Value.int .i64 rv2.1.Kind]) ++ ((rv2.1.Set.1.map (Value.int .u64)) ++ ([v3]))) rfl (one_append (one_cons rfl one_nil) (one_append vec_one (one_cons (by obtain ⟨_, _, h9⟩ := hRv3.shape; rw [h9]; rfl) one_nil))) (by simp [rv2.1.Set.2]) (by simp [rv2.1.Set.2, (Vec.zero 4).2]) ?_
      intro wv7 hs
      refine OW_nil ?_
      refine WP_ret ?_
      obtain rfl := Option.some.inj hM
      refine FL_nil hds ?_
      exact ⟨_, res1 Tryd.results75 (rv_cells (vs := ([Value.int .i64 rv2.1.Kind]) ++ ((rv2.1.Set.1.map (Value.int .u64)) ++ ([v3]))) ti27 rfl (by simp [rv2.1.Set.2]) (hs.cells (i := 2) rfl)), gg2, ⟨([Value.int .i64 rv2.1.Kind]) ++ ((rv2.1.Set.1.map (Value.int .u64)) ++ ([v3])), rfl, (tT_Regex_iff.2 ⟨[Value.int .i64 rv2.1.Kind], rv2.1.Set.1.map (Value.int .u64), [v3], rfl, rfl, rfl, ⟨_, rfl, hRv3⟩⟩)⟩, hagi, (Sep.selT (A := [Go.Lx.box b3 27 (([Value.int .i64 rv2.1.Kind]) ++ ((rv2.1.Set.1.map (Value.int .u64)) ++ ([v3]))), Go.Lx.box b1 52 ([encS rv2.2.s, Value.int .i64 rv2.2.atv, Value.bool rv2.2.bad]), Go.Lx.box b2 27 (([Value.int .i64 rv2.1.Kind]) ++ ((rv2.1.Set.1.map (Value.int .u64)) ++ ([v3])))]) (A' := [Go.Lx.box b1 52 ([encS rv2.2.s, Value.int .i64 rv2.2.atv, Value.bool rv2.2.bad])]) (L := Lt) hs [1] (by decide) rfl)⟩
    · refine WP_false rfl hc2 ?_
      refine WP_skip ?_
      refine WP_seq ?_
      refine WP_seq ?_
      refine WP_region ?_
      refine O (r_move (v := Value.pointer (some ⟨b1, 0, none⟩)) rfl) rfl ?_
      have hs : Go.Lx.Sep g0 w0 gg2 _ (Go.Lx.box b1 52 ([encS rv2.2.s, Value.int .i64 rv2.2.atv, Value.bool rv2.2.bad]) :: Go.Lx.box b3 27 (([Value.int .i64 rv2.1.Kind]) ++ ((rv2.1.Set.1.map (Value.int .u64)) ++ ([v3]))) :: Go.Lx.box b2 27 (([Value.int .i64 0]) ++ (((Vec.zero 4).1.map (Value.int .u64)) ++ ([Value.slice none 0 0]))) :: Lt) := (Sep.selT (A := [Go.Lx.box b3 27 (([Value.int .i64 rv2.1.Kind]) ++ ((rv2.1.Set.1.map (Value.int .u64)) ++ ([v3]))), Go.Lx.box b1 52 ([encS rv2.2.s, Value.int .i64 rv2.2.atv, Value.bool rv2.2.bad]), Go.Lx.box b2 27 (([Value.int .i64 0]) ++ (((Vec.zero 4).1.map (Value.int .u64)) ++ ([Value.slice none 0 0])))]) (A' := [Go.Lx.box b1 52 ([encS rv2.2.s, Value.int .i64 rv2.2.atv, Value.bool rv2.2.bad]), Go.Lx.box b3 27 (([Value.int .i64 rv2.1.Kind]) ++ ((rv2.1.Set.1.map (Value.int .u64)) ++ ([v3]))), Go.Lx.box b2 27 (([Value.int .i64 0]) ++ (((Vec.zero 4).1.map (Value.int .u64)) ++ ([Value.slice none 0 0])))]) (L := Lt) hs [1, 0, 2] (by decide) rfl)
      obtain ⟨rv3, hrv3, hM⟩ := bindS hM
      refine C [Value.pointer (some ⟨b1, 0, none⟩)] cf51 rfl (ref08_parser_next_ok hrv3 hs) rfl ?_
      rintro v4 wv8 ⟨gg3, hvv4, hlegg3, hs⟩
      replace hRv3 := hRv3.mono hlegg3
      replace hagi := hagi.trans hlegg3
      obtain ⟨cs6, rfl, hcs6⟩ := hvv4
      have hcs6 : cs6 = _ := hcs6; subst hcs6
      refine O (r_neq rfl rfl) rfl ?_
      refine OW_nil ?_
      rcases condS hM with ⟨hc3, hM⟩ | ⟨hc3, hM⟩
      · refine WP_true rfl hc3 ?_
        refine WP_seq ?_
        refine WP_region ?_
        refine O (r_move (v := Value.pointer (some ⟨b1, 0, none⟩)) rfl) rfl ?_
        refine O (r_nilCheck rfl) rfl ?_
        refine O (r_fieldAddr Tryd.underlying52 ti4 rfl rfl (by decide) rfl rfl) rfl ?_
        refine OW_store1 ti4 hs (i := 0) rfl rfl (v := Value.bool true) rfl rfl (o := 2) (by simp) ?_
        intro wv9 hs
        refine OW_nil ?_
        refine WP_seq ?_
        refine WP_region ?_
        refine O (r_loadN (cs := ([Value.int .i64 rv2.1.Kind]) ++ ((rv2.1.Set.1.map (Value.int .u64)) ++ ([v3]))) ti27 rfl (by simp [rv2.1.Set.2]) (hs.cells (i := 1) rfl)) rfl ?_
        refine OW_storeAll ti27 hs (i := 2) rfl rfl (v := Value.agg (List.toArray (α := Value) (([Value.int .i64 rv2.1.Kind]) ++ ((rv2.1.Set.1.map (Value.int .u64)) ++ ([v3]))))) rfl (vs := ([Value.int .i64 rv2.1.Kind]) ++ ((rv2.1.Set.1.map (Value.int .u64)) ++ ([v3]))) rfl (one_append (one_cons rfl one_nil) (one_append vec_one (one_cons (by obtain ⟨_, _, h9⟩ := hRv3.shape; rw [h9]; rfl) one_nil))) (by simp [rv2.1.Set.2]) (by simp [rv2.1.Set.2, (Vec.zero 4).2]) ?_
        intro wv10 hs
        refine OW_nil ?_
        refine WP_ret ?_
        obtain rfl := Option.some.inj hM
        refine FL_nil hds ?_
        exact ⟨_, res1 Tryd.results75 (rv_cells (vs := ([Value.int .i64 rv2.1.Kind]) ++ ((rv2.1.Set.1.map (Value.int .u64)) ++ ([v3]))) ti27 rfl (by simp [rv2.1.Set.2]) (hs.cells (i := 2) rfl)), gg3, ⟨([Value.int .i64 rv2.1.Kind]) ++ ((rv2.1.Set.1.map (Value.int .u64)) ++ ([v3])), rfl, (tT_Regex_iff.2 ⟨[Value.int .i64 rv2.1.Kind], rv2.1.Set.1.map (Value.int .u64), [v3], rfl, rfl, rfl, ⟨_, rfl, hRv3⟩⟩)⟩, hagi, (Sep.selT (A := [Go.Lx.box b1 52 ([encS rv2.2.s, Value.int .i64 rv2.2.atv, Value.bool true]), Go.Lx.box b3 27 (([Value.int .i64 rv2.1.Kind]) ++ ((rv2.1.Set.1.map (Value.int .u64)) ++ ([v3]))), Go.Lx.box b2 27 (([Value.int .i64 rv2.1.Kind]) ++ ((rv2.1.Set.1.map (Value.int .u64)) ++ ([v3])))]) (A' := [Go.Lx.box b1 52 ([encS rv2.2.s, Value.int .i64 rv2.2.atv, Value.bool true])]) (L := Lt) hs [0] (by decide) rfl)⟩
      · refine WP_false rfl hc3 ?_
        refine WP_skip ?_
        refine WP_seq ?_
        refine WP_region ?_
        refine O (r_move (v := Value.pointer (some ⟨b1, 0, none⟩)) rfl) rfl ?_
        refine O (r_nilCheck rfl) rfl ?_
        refine O (r_fieldAddr Tryd.underlying52 ti3 rfl rfl (by decide) rfl rfl) rfl ?_
        refine O (r_load (v := Value.int .i64 rv2.2.atv) ti3 rfl (hs.cell (i := 0) (o := 1) rfl rfl)) rfl ?_
        obtain ⟨t2, ht2, hM⟩ := bindS hM
        refine O (r_addM rfl rfl ht2) rfl ?_
        refine O (r_nilCheck rfl) rfl ?_
        refine O (r_fieldAddr Tryd.underlying52 ti3 rfl rfl (by decide) rfl rfl) rfl ?_
        refine OW_store1 ti3 hs (i := 0) rfl rfl (v := Value.int .i64 t2) rfl rfl (o := 1) (by simp) ?_
        intro wv11 hs
        refine OW_nil ?_
        refine WP_seq ?_
        refine WP_region ?_
        refine O (r_loadN (cs := ([Value.int .i64 rv2.1.Kind]) ++ ((rv2.1.Set.1.map (Value.int .u64)) ++ ([v3]))) ti27 rfl (by simp [rv2.1.Set.2]) (hs.cells (i := 1) rfl)) rfl ?_
        refine OW_storeAll ti27 hs (i := 2) rfl rfl (v := Value.agg (List.toArray (α := Value) (([Value.int .i64 rv2.1.Kind]) ++ ((rv2.1.Set.1.map (Value.int .u64)) ++ ([v3]))))) rfl (vs := ([Value.int .i64 rv2.1.Kind]) ++ ((rv2.1.Set.1.map (Value.int .u64)) ++ ([v3]))) rfl (one_append (one_cons rfl one_nil) (one_append vec_one (one_cons (by obtain ⟨_, _, h9⟩ := hRv3.shape; rw [h9]; rfl) one_nil))) (by simp [rv2.1.Set.2]) (by simp [rv2.1.Set.2, (Vec.zero 4).2]) ?_
        intro wv12 hs
        refine OW_nil ?_
        refine WP_ret ?_
        obtain rfl := Option.some.inj hM
        refine FL_nil hds ?_
        exact ⟨_, res1 Tryd.results75 (rv_cells (vs := ([Value.int .i64 rv2.1.Kind]) ++ ((rv2.1.Set.1.map (Value.int .u64)) ++ ([v3]))) ti27 rfl (by simp [rv2.1.Set.2]) (hs.cells (i := 2) rfl)), gg3, ⟨([Value.int .i64 rv2.1.Kind]) ++ ((rv2.1.Set.1.map (Value.int .u64)) ++ ([v3])), rfl, (tT_Regex_iff.2 ⟨[Value.int .i64 rv2.1.Kind], rv2.1.Set.1.map (Value.int .u64), [v3], rfl, rfl, rfl, ⟨_, rfl, hRv3⟩⟩)⟩, hagi, (Sep.selT (A := [Go.Lx.box b1 52 ([encS rv2.2.s, Value.int .i64 t2, Value.bool rv2.2.bad]), Go.Lx.box b3 27 (([Value.int .i64 rv2.1.Kind]) ++ ((rv2.1.Set.1.map (Value.int .u64)) ++ ([v3]))), Go.Lx.box b2 27 (([Value.int .i64 rv2.1.Kind]) ++ ((rv2.1.Set.1.map (Value.int .u64)) ++ ([v3])))]) (A' := [Go.Lx.box b1 52 ([encS rv2.2.s, Value.int .i64 t2, Value.bool rv2.2.bad])]) (L := Lt) hs [0] (by decide) rfl)⟩
  · refine WP_false rfl hc1 ?_
    refine WP_seq ?_
    refine WP_region ?_
    refine O (r_eql rfl rfl) rfl ?_
    refine O (r_assign (v := Value.bool (rv1 == 91)) rfl) rfl ?_
    refine OW_nil ?_
    rcases condS hM with ⟨hc4, hM⟩ | ⟨hc4, hM⟩
    · refine WP_true rfl hc4 ?_
      refine WP_seq ?_
      refine WP_region ?_
      refine O (r_move (v := Value.pointer (some ⟨b1, 0, none⟩)) rfl) rfl ?_
      refine O (r_nilCheck rfl) rfl ?_
      refine O (r_fieldAddr Tryd.underlying52 ti3 rfl rfl (by decide) rfl rfl) rfl ?_
      refine O (r_load (v := Value.int .i64 p1.atv) ti3 rfl (hs.cell (i := 0) (o := 1) rfl rfl)) rfl ?_
      obtain ⟨t3, ht3, hM⟩ := bindS hM
      refine O (r_addM rfl rfl ht3) rfl ?_
      refine O (r_nilCheck rfl) rfl ?_
      refine O (r_fieldAddr Tryd.underlying52 ti3 rfl rfl (by decide) rfl rfl) rfl ?_
      refine OW_store1 ti3 hs (i := 0) rfl rfl (v := Value.int .i64 t3) rfl rfl (o := 1) (by simp) ?_
      intro wv13 hs
      refine OW_nil ?_
      refine WP_seq ?_
      refine WP_region ?_
      refine O (r_move (v := Value.pointer (some ⟨b1, 0, none⟩)) rfl) rfl ?_
      obtain ⟨rv4, hrv4, hM⟩ := bindS hM
      refine C [Value.pointer (some ⟨b1, 0, none⟩)] cf86 rfl (ref08_parser_brackets_ok hrv4 hs) rfl ?_
      rintro v5 wv14 ⟨gg4, hvv5, hlegg4, hs⟩
      replace hagi := hagi.trans hlegg4
      obtain ⟨cs7, rfl, hcs7⟩ := hvv5
      obtain ⟨cs8, cs9, cs10, rfl, hcs8, hcs9, hcs10⟩ := tT_Regex_iff.1 hcs7
      have hcs8 : cs8 = _ := hcs8; subst hcs8
      have hcs9 : cs9 = _ := hcs9; subst hcs9
      obtain ⟨v6, rfl, hRv6⟩ := hcs10
      refine OW_storeAll ti27 hs (i := 1) rfl rfl (v := Value.agg (List.toArray (α := Value) (([Value.int .i64 rv4.1.Kind]) ++ ((rv4.1.Set.1.map (Value.int .u64)) ++ ([v6]))))) rfl (vs := ([Value.int .i64 rv4.1.Kind]) ++ ((rv4.1.Set.1.map (Value.int .u64)) ++ ([v6]))) rfl (one_append (one_cons rfl one_nil) (one_append vec_one (one_cons (by obtain ⟨_, _, h9⟩ := hRv6.shape; rw [h9]; rfl) one_nil))) (by simp [rv4.1.Set.2]) (by simp [rv4.1.Set.2, (Vec.zero 4).2]) ?_
      intro wv15 hs
      refine OW_nil ?_
      refine WP_ret ?_
      obtain rfl := Option.some.inj hM
      refine FL_nil hds ?_
      exact ⟨_, res1 Tryd.results75 (rv_cells (vs := ([Value.int .i64 rv4.1.Kind]) ++ ((rv4.1.Set.1.map (Value.int .u64)) ++ ([v6]))) ti27 rfl (by simp [rv4.1.Set.2]) (hs.cells (i := 1) rfl)), gg4, ⟨([Value.int .i64 rv4.1.Kind]) ++ ((rv4.1.Set.1.map (Value.int .u64)) ++ ([v6])), rfl, (tT_Regex_iff.2 ⟨[Value.int .i64 rv4.1.Kind], rv4.1.Set.1.map (Value.int .u64), [v6], rfl, rfl, rfl, ⟨_, rfl, hRv6⟩⟩)⟩, hagi, (Sep.selT (A := [Go.Lx.box b1 52 ([encS rv4.2.s, Value.int .i64 rv4.2.atv, Value.bool rv4.2.bad]), Go.Lx.box b2 27 (([Value.int .i64 rv4.1.Kind]) ++ ((rv4.1.Set.1.map (Value.int .u64)) ++ ([v6])))]) (A' := [Go.Lx.box b1 52 ([encS rv4.2.s, Value.int .i64 rv4.2.atv, Value.bool rv4.2.bad])]) (L := Lt) hs [0] (by decide) rfl)⟩
    · refine WP_false rfl hc4 ?_
      refine WP_seq ?_
      refine WP_region ?_
      refine O (r_eql rfl rfl) rfl ?_
      refine O (r_assign (v := Value.bool (rv1 == 46)) rfl) rfl ?_
      refine OW_nil ?_
      rcases condS hM with ⟨hc5, hM⟩ | ⟨hc5, hM⟩
      · refine WP_true rfl hc5 ?_
        refine WP_seq ?_
        refine WP_region ?_
        refine O (r_move (v := Value.pointer (some ⟨b1, 0, none⟩)) rfl) rfl ?_
        refine O (r_nilCheck rfl) rfl ?_
        refine O (r_fieldAddr Tryd.underlying52 ti3 rfl rfl (by decide) rfl rfl) rfl ?_
        refine O (r_load (v := Value.int .i64 p1.atv) ti3 rfl (hs.cell (i := 0) (o := 1) rfl rfl)) rfl ?_
        obtain ⟨t4, ht4, hM⟩ := bindS hM
        refine O (r_addM rfl rfl ht4) rfl ?_
        refine O (r_nilCheck rfl) rfl ?_
        refine O (r_fieldAddr Tryd.underlying52 ti3 rfl rfl (by decide) rfl rfl) rfl ?_
        refine OW_store1 ti3 hs (i := 0) rfl rfl (v := Value.int .i64 t4) rfl rfl (o := 1) (by simp) ?_
        intro wv16 hs
        refine OW_nil ?_
        refine WP_seq ?_
        refine WP_region ?_
        obtain ⟨rv5, hrv5, hM⟩ := bindS hM
        refine C [] cf61 rfl (ref08_Dot_ok hrv5 hs.imm) rfl ?_
        rintro v7 wv17 ⟨gg5, hvv7, hegg5⟩
        have hlegg5 := hegg5.le hs.imm
        replace hs := hs.call hegg5
        replace hagi := hagi.trans hlegg5
        obtain ⟨cs11, rfl, hcs11⟩ := hvv7
        have hcs11 : cs11 = _ := hcs11; subst hcs11
        refine O (r_build (vs := [(0, Value.int .i64 3), (1, encV .u64 rv5)]) (cs := ([Value.int .i64 3]) ++ ((rv5.1.map (Value.int .u64)) ++ ([Value.slice none 0 0]))) rfl (built_fill [(0, 1), (1, 4), (5, 1)] (([Value.int .i64 0]) ++ (((Vec.zero 4).1.map (Value.int .u64)) ++ ([Value.slice none 0 0]))) (fun _ => by kernel_rfl) (fill_step ([]) ([Value.int .i64 0]) (((Vec.zero 4).1.map (Value.int .u64)) ++ ([Value.slice none 0 0])) ([Value.int .i64 3]) rfl (by simp) rfl rfl rfl rfl <| fill_step ([Value.int .i64 3]) ((Vec.zero 4).1.map (Value.int .u64)) ([Value.slice none 0 0]) (rv5.1.map (Value.int .u64)) rfl (by simp) rfl rfl (by simp [(Vec.zero 4).2]) (by simp [rv5.2]) <| fill_done))) rfl ?_
        refine OW_storeAll ti27 hs (i := 1) rfl rfl (v := Value.agg (List.toArray (α := Value) (([Value.int .i64 3]) ++ ((rv5.1.map (Value.int .u64)) ++ ([Value.slice none 0 0]))))) rfl (vs := ([Value.int .i64 3]) ++ ((rv5.1.map (Value.int .u64)) ++ ([Value.slice none 0 0]))) rfl (one_append (one_cons rfl one_nil) (one_append vec_one (one_cons rfl one_nil))) (by simp [rv5.2]) (by simp [rv5.2, (Vec.zero 4).2]) ?_
        intro wv18 hs
        refine OW_nil ?_
        refine WP_ret ?_
        obtain rfl := Option.some.inj hM
        refine FL_nil hds ?_
        exact ⟨_, res1 Tryd.results75 (rv_cells (vs := ([Value.int .i64 3]) ++ ((rv5.1.map (Value.int .u64)) ++ ([Value.slice none 0 0]))) ti27 rfl (by simp [rv5.2]) (hs.cells (i := 1) rfl)), gg5, ⟨([Value.int .i64 3]) ++ ((rv5.1.map (Value.int .u64)) ++ ([Value.slice none 0 0])), rfl, (tT_Regex_iff.2 ⟨[Value.int .i64 3], rv5.1.map (Value.int .u64), [Value.slice none 0 0], rfl, rfl, rfl, ⟨_, rfl, RdS.nil⟩⟩)⟩, hagi, (Sep.selT (A := [Go.Lx.box b1 52 ([encS p1.s, Value.int .i64 t4, Value.bool p1.bad]), Go.Lx.box b2 27 (([Value.int .i64 3]) ++ ((rv5.1.map (Value.int .u64)) ++ ([Value.slice none 0 0])))]) (A' := [Go.Lx.box b1 52 ([encS p1.s, Value.int .i64 t4, Value.bool p1.bad])]) (L := Lt) hs [0] (by decide) rfl)⟩
      · refine WP_false rfl hc5 ?_
        refine WP_skip ?_
        refine WP_seq ?_
        refine WP_region ?_
        refine O (r_move (v := Value.pointer (some ⟨b1, 0, none⟩)) rfl) rfl ?_
        obtain ⟨rv6, hrv6, hM⟩ := bindS hM
        refine C [Value.pointer (some ⟨b1, 0, none⟩), Value.bool false] cf88 rfl (ref08_parser_char_ok hrv6 hs) rfl ?_
        rintro v8 wv19 ⟨gg6, hvv8, hlegg6, hs⟩
        replace hagi := hagi.trans hlegg6
        obtain ⟨cs12, rfl, hcs12⟩ := hvv8
        have hcs12 : cs12 = _ := hcs12; subst hcs12
        obtain ⟨rv7, hrv7, hM⟩ := bindS hM
        refine C [Value.int .i64 rv6.1] cf87 rfl (ref08_One_ok hrv7 hs.imm) rfl ?_
        rintro v9 wv20 ⟨gg7, hvv9, hegg7⟩
        have hlegg7 := hegg7.le hs.imm
        replace hs := hs.call hegg7
        replace hagi := hagi.trans hlegg7
        obtain ⟨cs13, rfl, hcs13⟩ := hvv9
        obtain ⟨cs14, cs15, cs16, rfl, hcs14, hcs15, hcs16⟩ := tT_Regex_iff.1 hcs13
        have hcs14 : cs14 = _ := hcs14; subst hcs14
        have hcs15 : cs15 = _ := hcs15; subst hcs15
        obtain ⟨v10, rfl, hRv10⟩ := hcs16
        refine OW_storeAll ti27 hs (i := 1) rfl rfl (v := Value.agg (List.toArray (α := Value) (([Value.int .i64 rv7.Kind]) ++ ((rv7.Set.1.map (Value.int .u64)) ++ ([v10]))))) rfl (vs := ([Value.int .i64 rv7.Kind]) ++ ((rv7.Set.1.map (Value.int .u64)) ++ ([v10]))) rfl (one_append (one_cons rfl one_nil) (one_append vec_one (one_cons (by obtain ⟨_, _, h9⟩ := hRv10.shape; rw [h9]; rfl) one_nil))) (by simp [rv7.Set.2]) (by simp [rv7.Set.2, (Vec.zero 4).2]) ?_
        intro wv21 hs
        refine OW_nil ?_
        refine WP_ret ?_
        obtain rfl := Option.some.inj hM
        refine FL_nil hds ?_
        exact ⟨_, res1 Tryd.results75 (rv_cells (vs := ([Value.int .i64 rv7.Kind]) ++ ((rv7.Set.1.map (Value.int .u64)) ++ ([v10]))) ti27 rfl (by simp [rv7.Set.2]) (hs.cells (i := 1) rfl)), gg7, ⟨([Value.int .i64 rv7.Kind]) ++ ((rv7.Set.1.map (Value.int .u64)) ++ ([v10])), rfl, (tT_Regex_iff.2 ⟨[Value.int .i64 rv7.Kind], rv7.Set.1.map (Value.int .u64), [v10], rfl, rfl, rfl, ⟨_, rfl, hRv10⟩⟩)⟩, hagi, (Sep.selT (A := [Go.Lx.box b1 52 ([encS rv6.2.s, Value.int .i64 rv6.2.atv, Value.bool rv6.2.bad]), Go.Lx.box b2 27 (([Value.int .i64 rv7.Kind]) ++ ((rv7.Set.1.map (Value.int .u64)) ++ ([v10])))]) (A' := [Go.Lx.box b1 52 ([encS rv6.2.s, Value.int .i64 rv6.2.atv, Value.bool rv6.2.bad])]) (L := Lt) hs [0] (by decide) rfl)⟩

set_option maxRecDepth 100000 in
theorem ref08_parser_repeat_step {fl : Nat} (ih_ref08_parser_atom : C.ref08_parser_atom fl) : C.ref08_parser_repeat (fl + 1) := by
  intro p1 r hM g0 w0 gi wi Lt b1 hs
  unfold M.ref08_parser_repeat at hM
  have hagi := Hle.refl gi
  refine calls_of_WP (args := [Value.pointer (some ⟨b1, 0, none⟩)]) Tryd.func66 rfl Tryd.ntmps66 rfl ?_
  have hds : (argEnv [Value.pointer (some ⟨b1, 0, none⟩)]).ds = [] := rfl
  refine WP_seq ?_
  refine WP_region ?_
  refine OW_alloc ti27 hs (zs := ([Value.int .i64 0]) ++ (((Vec.zero 4).1.map (Value.int .u64)) ++ ([Value.slice none 0 0]))) rfl rfl ?_
  intro b2 wv1 hs
  refine OW_nil ?_
  refine WP_seq ?_
  refine WP_region ?_
  refine O (r_move (v := Value.pointer (some ⟨b1, 0, none⟩)) rfl) rfl ?_
  have hs : Go.Lx.Sep g0 w0 gi _ (Go.Lx.box b1 52 ([encS p1.s, Value.int .i64 p1.atv, Value.bool p1.bad]) :: Go.Lx.box b2 27 (([Value.int .i64 0]) ++ (((Vec.zero 4).1.map (Value.int .u64)) ++ ([Value.slice none 0 0]))) :: Lt) := (Sep.selT (A := [Go.Lx.box b2 27 (([Value.int .i64 0]) ++ (((Vec.zero 4).1.map (Value.int .u64)) ++ ([Value.slice none 0 0]))), Go.Lx.box b1 52 ([encS p1.s, Value.int .i64 p1.atv, Value.bool p1.bad])]) (A' := [Go.Lx.box b1 52 ([encS p1.s, Value.int .i64 p1.atv, Value.bool p1.bad]), Go.Lx.box b2 27 (([Value.int .i64 0]) ++ (((Vec.zero 4).1.map (Value.int .u64)) ++ ([Value.slice none 0 0])))]) (L := Lt) hs [1, 0] (by decide) rfl)
  obtain ⟨rv1, hrv1, hM⟩ := bindS hM
  refine C [Value.pointer (some ⟨b1, 0, none⟩)] cf75 rfl (ih_ref08_parser_atom hrv1 hs) rfl ?_
  rintro v1 wv2 ⟨gg1, hvv1, hlegg1, hs⟩
  replace hagi := hagi.trans hlegg1
  obtain ⟨cs1, rfl, hcs1⟩ := hvv1
  obtain ⟨cs2, cs3, cs4, rfl, hcs2, hcs3, hcs4⟩ := tT_Regex_iff.1 hcs1
  have hcs2 : cs2 = _ := hcs2; subst hcs2
  have hcs3 : cs3 = _ := hcs3; subst hcs3
  obtain ⟨v2, rfl, hRv2⟩ := hcs4
  refine OW_alloc ti27 hs (zs := ([Value.int .i64 0]) ++ (((Vec.zero 4).1.map (Value.int .u64)) ++ ([Value.slice none 0 0]))) rfl rfl ?_
  intro b3 wv3 hs
  refine OW_storeAll ti27 hs (i := 0) rfl rfl (v := Value.agg (List.toArray (α := Value) (([Value.int .i64 rv1.1.Kind]) ++ ((rv1.1.Set.1.map (Value.int .u64)) ++ ([v2]))))) rfl (vs := ([Value.int .i64 rv1.1.Kind]) ++ ((rv1.1.Set.1.map (Value.int .u64)) ++ ([v2]))) rfl (one_append (one_cons rfl one_nil) (one_append vec_one (one_cons (by obtain ⟨_, _, h9⟩ := hRv2.shape; rw [h9]; rfl) one_nil))) (by simp [rv1.1.Set.2]) (by simp [rv1.1.Set.2, (Vec.zero 4).2]) ?_
  intro wv4 hs
  refine OW_nil ?_
  obtain ⟨o9, hx4, hKhx4⟩ := stepS hM
  refine WP_cut (fun E w => ∃ (rv38 : Int) (rv39 : (Vec 4)) (rv40 : (List T_Regex)) (rv41 : Int), o9 = .next (rv38, rv39, rv40, rv41) ∧ ∃ (gg32 : Hp) (v51 : Value), E 2 = Value.pointer (some ⟨b2, 0, none⟩) ∧ E 3 = Value.pointer (some ⟨b3, 0, none⟩) ∧ E.ds = [] ∧ Hle gg1 gg32 ∧ RdS tT_Regex gg32 v51 rv40 ∧ Go.Lx.Sep g0 w0 gg32 w (Go.Lx.box b3 27 (([Value.int .i64 rv38]) ++ ((rv39.1.map (Value.int .u64)) ++ ([v51]))) :: Go.Lx.box b1 52 ([encS rv1.2.s, Value.int .i64 rv41, Value.bool rv1.2.bad]) :: Go.Lx.box b2 27 (([Value.int .i64 0]) ++ (((Vec.zero 4).1.map (Value.int .u64)) ++ ([Value.slice none 0 0]))) :: Lt)) ?_ ?_
  · have hM := hx4
    have hagg1 := Hle.refl gg1
    refine WP_block ?_
    refine WP_loop (fun (st9 : Int × Int × (Vec 4) × (List T_Regex)) E w => match st9 with | (p6, rv54, rv55, rv56) => ∃ (gg43 : Hp) (v68 : Value), E 0 = Value.pointer (some ⟨b1, 0, none⟩) ∧ E 2 = Value.pointer (some ⟨b2, 0, none⟩) ∧ E 3 = Value.pointer (some ⟨b3, 0, none⟩) ∧ E.ds = [] ∧ Hle gg1 gg43 ∧ RdS tT_Regex gg43 v68 rv56 ∧ Go.Lx.Sep g0 w0 gg43 w (Go.Lx.box b3 27 (([Value.int .i64 rv54]) ++ ((rv55.1.map (Value.int .u64)) ++ ([v68]))) :: Go.Lx.box b1 52 ([encS rv1.2.s, Value.int .i64 p6, Value.bool rv1.2.bad]) :: Go.Lx.box b2 27 (([Value.int .i64 0]) ++ (((Vec.zero 4).1.map (Value.int .u64)) ++ ([Value.slice none 0 0]))) :: Lt)) hM ⟨gg1, v2, rfl, rfl, rfl, hds, (Hle.refl _), hRv2, hs⟩ ?_
    clear hs hM
    rintro ⟨p6, rv54, rv55, rv56⟩ o7 E w hM ⟨gg43, v68, hE0, hE2, hE3, hds, hlegg43, hRv68, hs⟩
    obtain ⟨E, rfl⟩ := open1 (E := E) hE0
    obtain ⟨E, rfl⟩ := open1 (E := E) hE2
    obtain ⟨E, rfl⟩ := open1 (E := E) hE3
    replace hagi := hagi.trans hlegg43
    replace hagg1 := hagg1.trans hlegg43
    have hagg43 := Hle.refl gg43
    refine WP_seq ?_
    refine WP_seq ?_
    refine WP_region ?_
    refine O (r_move (v := Value.pointer (some ⟨b1, 0, none⟩)) rfl) rfl ?_
    refine O (r_nilCheck rfl) rfl ?_
    refine O (r_fieldAddr Tryd.underlying52 ti4 rfl rfl (by decide) rfl rfl) rfl ?_
    refine O (r_load (v := Value.bool rv1.2.bad) ti4 rfl (hs.cell (i := 1) (o := 2) rfl rfl)) rfl ?_
    refine O (r_not rfl) rfl ?_
    refine OW_nil ?_
    rcases condS hM with ⟨hc36, hM⟩ | ⟨hc36, hM⟩
    · refine WP_true rfl hc36 ?_
      refine WP_skip ?_
      refine WP_block ?_
      obtain ⟨o8, hx7, hKhx7⟩ := stepS hM
      refine WP_cut (fun E w => ∃ (rv72 : Int) (rv73 : (Vec 4)) (rv74 : (List T_Regex)), o8 = .next (rv72, rv73, rv74) ∧ ∃ (gg57 : Hp) (v92 : Value), E 0 = Value.pointer (some ⟨b1, 0, none⟩) ∧ E 2 = Value.pointer (some ⟨b2, 0, none⟩) ∧ E 3 = Value.pointer (some ⟨b3, 0, none⟩) ∧ E.ds = [] ∧ Hle gg43 gg57 ∧ RdS tT_Regex gg57 v92 rv74 ∧ Go.Lx.Sep g0 w0 gg57 w (Go.Lx.box b1 52 ([encS rv1.2.s, Value.int .i64 p6, Value.bool rv1.2.bad]) :: Go.Lx.box b3 27 (([Value.int .i64 rv72]) ++ ((rv73.1.map (Value.int .u64)) ++ ([v92]))) :: Go.Lx.box b2 27 (([Value.int .i64 0]) ++ (((Vec.zero 4).1.map (Value.int .u64)) ++ ([Value.slice none 0 0]))) :: Lt)) ?_ ?_
      · have hM := hx7
        refine WP_seq ?_
        refine WP_region ?_
        refine O (r_move (v := Value.pointer (some ⟨b1, 0, none⟩)) rfl) rfl ?_
        have hs : Go.Lx.Sep g0 w0 gg43 _ (Go.Lx.box b1 52 ([encS rv1.2.s, Value.int .i64 p6, Value.bool rv1.2.bad]) :: Go.Lx.box b3 27 (([Value.int .i64 rv54]) ++ ((rv55.1.map (Value.int .u64)) ++ ([v68]))) :: Go.Lx.box b2 27 (([Value.int .i64 0]) ++ (((Vec.zero 4).1.map (Value.int .u64)) ++ ([Value.slice none 0 0]))) :: Lt) := (Sep.selT (A := [Go.Lx.box b3 27 (([Value.int .i64 rv54]) ++ ((rv55.1.map (Value.int .u64)) ++ ([v68]))), Go.Lx.box b1 52 ([encS rv1.2.s, Value.int .i64 p6, Value.bool rv1.2.bad]), Go.Lx.box b2 27 (([Value.int .i64 0]) ++ (((Vec.zero 4).1.map (Value.int .u64)) ++ ([Value.slice none 0 0])))]) (A' := [Go.Lx.box b1 52 ([encS rv1.2.s, Value.int .i64 p6, Value.bool rv1.2.bad]), Go.Lx.box b3 27 (([Value.int .i64 rv54]) ++ ((rv55.1.map (Value.int .u64)) ++ ([v68]))), Go.Lx.box b2 27 (([Value.int .i64 0]) ++ (((Vec.zero 4).1.map (Value.int .u64)) ++ ([Value.slice none 0 0])))]) (L := Lt) hs [1, 0, 2] (by decide) rfl)
        obtain ⟨rv75, hrv75, hM⟩ := bindS hM
        refine C [Value.pointer (some ⟨b1, 0, none⟩)] cf51 rfl (ref08_parser_next_ok hrv75 hs) rfl ?_
        rintro v93 wv109 ⟨gg58, hvv93, hlegg58, hs⟩
        replace hRv68 := hRv68.mono hlegg58
        replace hagi := hagi.trans hlegg58
        replace hlegg43 := hlegg43.trans hlegg58
        replace hagg43 := hagg43.trans hlegg58
        obtain ⟨cs104, rfl, hcs104⟩ := hvv93
        have hcs104 : cs104 = _ := hcs104; subst hcs104
        refine OW_nil ?_
        refine WP_block ?_
        refine WP_seq ?_
        refine WP_region ?_
        refine O (r_eql rfl rfl) rfl ?_
        refine O (r_assign (v := Value.bool (rv75 == 42)) rfl) rfl ?_
        refine OW_nil ?_
        rcases condS hM with ⟨hc40, hM⟩ | ⟨hc40, hM⟩
        · refine WP_true rfl hc40 ?_
          refine WP_region ?_
          refine O (r_loadN (cs := ([Value.int .i64 rv54]) ++ ((rv55.1.map (Value.int .u64)) ++ ([v68]))) ti27 rfl (by simp [rv55.2]) (hs.cells (i := 1) rfl)) rfl ?_
          obtain ⟨rv76, hrv76, hM⟩ := bindS hM
          refine C [Value.agg (List.toArray (α := Value) (([Value.int .i64 rv54]) ++ ((rv55.1.map (Value.int .u64)) ++ ([v68]))))] cf76 rfl (ref08_star_ok hrv76 hs.imm (tT_Regex_iff.2 ⟨[Value.int .i64 rv54], rv55.1.map (Value.int .u64), [v68], rfl, rfl, rfl, ⟨_, rfl, hRv68⟩⟩)) rfl ?_
          rintro v94 wv110 ⟨gg59, hvv94, hegg59⟩
          have hlegg59 := hegg59.le hs.imm
          replace hs := hs.call hegg59
          replace hRv68 := hRv68.mono hlegg59
          replace hagi := hagi.trans hlegg59
          replace hlegg43 := hlegg43.trans hlegg59
          replace hagg43 := hagg43.trans hlegg59
          obtain ⟨cs105, rfl, hcs105⟩ := hvv94
          obtain ⟨cs106, cs107, cs108, rfl, hcs106, hcs107, hcs108⟩ := tT_Regex_iff.1 hcs105
          have hcs106 : cs106 = _ := hcs106; subst hcs106
          have hcs107 : cs107 = _ := hcs107; subst hcs107
          obtain ⟨v95, rfl, hRv95⟩ := hcs108
          refine OW_storeAll ti27 hs (i := 1) rfl rfl (v := Value.agg (List.toArray (α := Value) (([Value.int .i64 rv76.Kind]) ++ ((rv76.Set.1.map (Value.int .u64)) ++ ([v95]))))) rfl (vs := ([Value.int .i64 rv76.Kind]) ++ ((rv76.Set.1.map (Value.int .u64)) ++ ([v95]))) rfl (one_append (one_cons rfl one_nil) (one_append vec_one (one_cons (by obtain ⟨_, _, h9⟩ := hRv95.shape; rw [h9]; rfl) one_nil))) (by simp [rv76.Set.2]) (by simp [rv76.Set.2, rv55.2]) ?_
          intro wv111 hs
          refine OW_nil ?_
          obtain rfl := Option.some.inj hM
          exact ⟨rv76.Kind, rv76.Set, rv76.Kids, rfl, gg59, v95, rfl, rfl, rfl, hds, hagg43, hRv95, hs⟩
        · refine WP_false rfl hc40 ?_
          refine WP_seq ?_
          refine WP_region ?_
          refine O (r_eql rfl rfl) rfl ?_
          refine O (r_assign (v := Value.bool (rv75 == 43)) rfl) rfl ?_
          refine OW_nil ?_
          rcases condS hM with ⟨hc41, hM⟩ | ⟨hc41, hM⟩
          · refine WP_true rfl hc41 ?_
            refine WP_any (.q 0 (.q 1 (.s 2 (.s 3 (.q 4 (.s 5 (.leaf))))))) (SS g0 w0 gg58 (Go.Lx.box b1 52 ([encS rv1.2.s, Value.int .i64 p6, Value.bool rv1.2.bad]) :: Go.Lx.box b3 27 (([Value.int .i64 rv54]) ++ ((rv55.1.map (Value.int .u64)) ++ ([v68]))) :: Go.Lx.box b2 27 (([Value.int .i64 0]) ++ (((Vec.zero 4).1.map (Value.int .u64)) ++ ([Value.slice none 0 0]))) :: Lt)) mo (by decide +kernel) ?_
            have hs := hs.drew
            have hagg58 := Hle.refl gg58
            have hRv68b := hRv68
            have hS : SS g0 w0 gg58 (Go.Lx.box b1 52 ([encS rv1.2.s, Value.int .i64 p6, Value.bool rv1.2.bad]) :: Go.Lx.box b3 27 (([Value.int .i64 rv54]) ++ ((rv55.1.map (Value.int .u64)) ++ ([v68]))) :: Go.Lx.box b2 27 (([Value.int .i64 0]) ++ (((Vec.zero 4).1.map (Value.int .u64)) ++ ([Value.slice none 0 0]))) :: Lt) _ := ⟨gg58, Hle.refl _, hs⟩
            refine A rfl hS (fun w9 h9 => by obtain ⟨g9, hle9, hs⟩ := h9; exact r_loadN (cs := ([Value.int .i64 rv54]) ++ ((rv55.1.map (Value.int .u64)) ++ ([v68]))) ti27 rfl (by simp [rv55.2]) (hs.cells (i := 1) rfl)) rfl ?_
            refine A rfl hS (fun w9 h9 => by obtain ⟨g9, hle9, hs⟩ := h9; exact r_loadN (cs := ([Value.int .i64 rv54]) ++ ((rv55.1.map (Value.int .u64)) ++ ([v68]))) ti27 rfl (by simp [rv55.2]) (hs.cells (i := 1) rfl)) rfl ?_
            refine A1 rfl ?_
            obtain ⟨rv77, hrv77, hM⟩ := bindS hM
            refine C [Value.agg (List.toArray (α := Value) (([Value.int .i64 rv54]) ++ ((rv55.1.map (Value.int .u64)) ++ ([v68]))))] cf76 rfl (ref08_star_ok hrv77 hs.imm (tT_Regex_iff.2 ⟨[Value.int .i64 rv54], rv55.1.map (Value.int .u64), [v68], rfl, rfl, rfl, ⟨_, rfl, hRv68⟩⟩)) rfl ?_
            rintro v96 wv112 ⟨gg60, hvv96, hegg60⟩
            have hlegg60 := hegg60.le hs.imm
            replace hs := hs.call hegg60
            replace hRv68 := hRv68.mono hlegg60
            replace hagi := hagi.trans hlegg60
            replace hlegg43 := hlegg43.trans hlegg60
            replace hagg43 := hagg43.trans hlegg60
            replace hagg58 := hagg58.trans hlegg60
            obtain ⟨cs109, rfl, hcs109⟩ := hvv96
            obtain ⟨cs110, cs111, cs112, rfl, hcs110, hcs111, hcs112⟩ := tT_Regex_iff.1 hcs109
            have hcs110 : cs110 = _ := hcs110; subst hcs110
            have hcs111 : cs111 = _ := hcs111; subst hcs111
            obtain ⟨v97, rfl, hRv97⟩ := hcs112
            refine OW_nil ?_
            have hS : SS g0 w0 gg58 (Go.Lx.box b1 52 ([encS rv1.2.s, Value.int .i64 p6, Value.bool rv1.2.bad]) :: Go.Lx.box b3 27 (([Value.int .i64 rv54]) ++ ((rv55.1.map (Value.int .u64)) ++ ([v68]))) :: Go.Lx.box b2 27 (([Value.int .i64 0]) ++ (((Vec.zero 4).1.map (Value.int .u64)) ++ ([Value.slice none 0 0]))) :: Lt) _ := ⟨gg60, hagg58, hs⟩
            refine ⟨fun _ => hS, ?_⟩
            refine A1 rfl ?_
            refine OW_lit (τ := tT_Regex) [Value.agg (List.toArray (α := Value) (([Value.int .i64 rv54]) ++ ((rv55.1.map (Value.int .u64)) ++ ([v68])))), Value.agg (List.toArray (α := Value) (([Value.int .i64 rv77.Kind]) ++ ((rv77.Set.1.map (Value.int .u64)) ++ ([v97]))))] [(T_Regex.mk rv54 rv55 rv56), rv77] Tryd.underlying25 ti27 (by decide) hs rfl rfl rfl ⟨(tT_Regex_iff.2 ⟨[Value.int .i64 rv54], rv55.1.map (Value.int .u64), [v68], rfl, rfl, rfl, ⟨_, rfl, hRv68⟩⟩), (tT_Regex_iff.2 ⟨[Value.int .i64 rv77.Kind], rv77.Set.1.map (Value.int .u64), [v97], rfl, rfl, rfl, ⟨_, rfl, hRv97⟩⟩), trivial⟩ rfl ?_
            intro v98 wv113 xs23 hrelxs23 hs
            refine OW_nil ?_
            have hS : SS g0 w0 gg58 (Go.Lx.box b1 52 ([encS rv1.2.s, Value.int .i64 p6, Value.bool rv1.2.bad]) :: Go.Lx.box b3 27 (([Value.int .i64 rv54]) ++ ((rv55.1.map (Value.int .u64)) ++ ([v68]))) :: Go.Lx.box b2 27 (([Value.int .i64 0]) ++ (((Vec.zero 4).1.map (Value.int .u64)) ++ ([Value.slice none 0 0]))) :: Lt) _ := ⟨gg60, hagg58, (Sep.selT (A := [.row v98 27 tT_Regex.sz [(T_Regex.mk rv54 rv55 rv56), rv77].length xs23, Go.Lx.box b1 52 ([encS rv1.2.s, Value.int .i64 p6, Value.bool rv1.2.bad]), Go.Lx.box b3 27 (([Value.int .i64 rv54]) ++ ((rv55.1.map (Value.int .u64)) ++ ([v68]))), Go.Lx.box b2 27 (([Value.int .i64 0]) ++ (((Vec.zero 4).1.map (Value.int .u64)) ++ ([Value.slice none 0 0])))]) (A' := [Go.Lx.box b1 52 ([encS rv1.2.s, Value.int .i64 p6, Value.bool rv1.2.bad]), Go.Lx.box b3 27 (([Value.int .i64 rv54]) ++ ((rv55.1.map (Value.int .u64)) ++ ([v68]))), Go.Lx.box b2 27 (([Value.int .i64 0]) ++ (((Vec.zero 4).1.map (Value.int .u64)) ++ ([Value.slice none 0 0])))]) (L := Lt) hs [1, 2, 3] (by decide) rfl)⟩
            refine ⟨fun _ => hS, ?_⟩
            have ho23 := one_of_shape (hs.rowShape (i := 0) rfl)
            refine A rfl hS (fun w9 h9 => by obtain ⟨g9, hle9, hs⟩ := h9; exact r_build (vs := [(0, Value.int .i64 4), (2, v98)]) (cs := ([Value.int .i64 4]) ++ (((Vec.zero 4).1.map (Value.int .u64)) ++ ([v98]))) rfl (built_fill [(0, 1), (1, 4), (5, 1)] (([Value.int .i64 0]) ++ (((Vec.zero 4).1.map (Value.int .u64)) ++ ([Value.slice none 0 0]))) (fun _ => by kernel_rfl) (fill_step ([]) ([Value.int .i64 0]) (((Vec.zero 4).1.map (Value.int .u64)) ++ ([Value.slice none 0 0])) ([Value.int .i64 4]) rfl (by simp) rfl rfl rfl rfl <| fill_step (([Value.int .i64 4]) ++ ((Vec.zero 4).1.map (Value.int .u64))) ([Value.slice none 0 0]) ([]) ([v98]) rfl (by simp) (cells_one ho23) (by simp [(Vec.zero 4).2]) rfl rfl <| fill_done))) rfl ?_
            refine A1 rfl ?_
            refine OW_storeAll ti27 hs (i := 2) rfl rfl (v := Value.agg (List.toArray (α := Value) (([Value.int .i64 4]) ++ (((Vec.zero 4).1.map (Value.int .u64)) ++ ([v98]))))) rfl (vs := ([Value.int .i64 4]) ++ (((Vec.zero 4).1.map (Value.int .u64)) ++ ([v98]))) rfl (one_append (one_cons rfl one_nil) (one_append vec_one (one_cons (by obtain ⟨_, _, h9⟩ := hs.rowShape (i := 0) rfl; rw [h9]; rfl) one_nil))) (by simp [(Vec.zero 4).2]) (by simp [(Vec.zero 4).2, rv55.2]) ?_
            intro wv114 hs
            refine OW_nil ?_
            refine ⟨fun h => absurd h (by decide +kernel), ?_⟩
            refine AN ?_
            obtain rfl := Option.some.inj hM
            obtain ⟨gg61, hlegg61, hRgg61, hs⟩ := hs.relRow (i := 0) rfl hrelxs23
            replace hRv68 := hRv68.mono hlegg61
            replace hRv97 := hRv97.mono hlegg61
            replace hagi := hagi.trans hlegg61
            replace hlegg43 := hlegg43.trans hlegg61
            replace hagg43 := hagg43.trans hlegg61
            replace hagg58 := hagg58.trans hlegg61
            exact ⟨(4 : Int), (Vec.zero 4), ([(T_Regex.mk rv54 rv55 rv56), rv77] : (List T_Regex)), rfl, gg61, v98, rfl, rfl, rfl, hds, hagg43, hRgg61, hs⟩
          · refine WP_false rfl hc41 ?_
            refine WP_seq ?_
            refine WP_region ?_
            refine O (r_eql rfl rfl) rfl ?_
            refine O (r_assign (v := Value.bool (rv75 == 63)) rfl) rfl ?_
            refine OW_nil ?_
            rcases condS hM with ⟨hc42, hM⟩ | ⟨hc42, hM⟩
            · refine WP_true rfl hc42 ?_
              refine WP_region ?_
              refine O (r_loadN (cs := ([Value.int .i64 rv54]) ++ ((rv55.1.map (Value.int .u64)) ++ ([v68]))) ti27 rfl (by simp [rv55.2]) (hs.cells (i := 1) rfl)) rfl ?_
              refine O (r_build (vs := [(0, Value.int .i64 2)]) (cs := ([Value.int .i64 2]) ++ (((Vec.zero 4).1.map (Value.int .u64)) ++ ([Value.slice none 0 0]))) rfl (built_fill [(0, 1), (1, 4), (5, 1)] (([Value.int .i64 0]) ++ (((Vec.zero 4).1.map (Value.int .u64)) ++ ([Value.slice none 0 0]))) (fun _ => by kernel_rfl) (fill_step ([]) ([Value.int .i64 0]) (((Vec.zero 4).1.map (Value.int .u64)) ++ ([Value.slice none 0 0])) ([Value.int .i64 2]) rfl (by simp) rfl rfl rfl rfl <| fill_done))) rfl ?_
              refine OW_lit (τ := tT_Regex) [Value.agg (List.toArray (α := Value) (([Value.int .i64 rv54]) ++ ((rv55.1.map (Value.int .u64)) ++ ([v68])))), Value.agg (List.toArray (α := Value) (([Value.int .i64 2]) ++ (((Vec.zero 4).1.map (Value.int .u64)) ++ ([Value.slice none 0 0]))))] [(T_Regex.mk rv54 rv55 rv56), (T_Regex.mk 2 (Vec.zero 4) [])] Tryd.underlying25 ti27 (by decide) hs rfl rfl rfl ⟨(tT_Regex_iff.2 ⟨[Value.int .i64 rv54], rv55.1.map (Value.int .u64), [v68], rfl, rfl, rfl, ⟨_, rfl, hRv68⟩⟩), (tT_Regex_iff.2 ⟨[Value.int .i64 2], (Vec.zero 4).1.map (Value.int .u64), [Value.slice none 0 0], rfl, rfl, rfl, ⟨_, rfl, RdS.nil⟩⟩), trivial⟩ rfl ?_
              intro v99 wv115 xs24 hrelxs24 hs
              have ho24 := one_of_shape (hs.rowShape (i := 0) rfl)
              refine O (r_build (vs := [(0, Value.int .i64 5), (2, v99)]) (cs := ([Value.int .i64 5]) ++ (((Vec.zero 4).1.map (Value.int .u64)) ++ ([v99]))) rfl (built_fill [(0, 1), (1, 4), (5, 1)] (([Value.int .i64 0]) ++ (((Vec.zero 4).1.map (Value.int .u64)) ++ ([Value.slice none 0 0]))) (fun _ => by kernel_rfl) (fill_step ([]) ([Value.int .i64 0]) (((Vec.zero 4).1.map (Value.int .u64)) ++ ([Value.slice none 0 0])) ([Value.int .i64 5]) rfl (by simp) rfl rfl rfl rfl <| fill_step (([Value.int .i64 5]) ++ ((Vec.zero 4).1.map (Value.int .u64))) ([Value.slice none 0 0]) ([]) ([v99]) rfl (by simp) (cells_one ho24) (by simp [(Vec.zero 4).2]) rfl rfl <| fill_done))) rfl ?_
              refine OW_storeAll ti27 hs (i := 2) rfl rfl (v := Value.agg (List.toArray (α := Value) (([Value.int .i64 5]) ++ (((Vec.zero 4).1.map (Value.int .u64)) ++ ([v99]))))) rfl (vs := ([Value.int .i64 5]) ++ (((Vec.zero 4).1.map (Value.int .u64)) ++ ([v99]))) rfl (one_append (one_cons rfl one_nil) (one_append vec_one (one_cons (by obtain ⟨_, _, h9⟩ := hs.rowShape (i := 0) rfl; rw [h9]; rfl) one_nil))) (by simp [(Vec.zero 4).2]) (by simp [(Vec.zero 4).2, rv55.2]) ?_
              intro wv116 hs
              refine OW_nil ?_
              obtain rfl := Option.some.inj hM
              obtain ⟨gg62, hlegg62, hRgg62, hs⟩ := hs.relRow (i := 0) rfl hrelxs24
              replace hRv68 := hRv68.mono hlegg62
              replace hagi := hagi.trans hlegg62
              replace hlegg43 := hlegg43.trans hlegg62
              replace hagg43 := hagg43.trans hlegg62
              exact ⟨(5 : Int), (Vec.zero 4), ([(T_Regex.mk rv54 rv55 rv56), (T_Regex.mk 2 (Vec.zero 4) [])] : (List T_Regex)), rfl, gg62, v99, rfl, rfl, rfl, hds, hagg43, hRgg62, hs⟩
            · refine WP_false rfl hc42 ?_
              refine WP_seq ?_
              refine WP_region ?_
              refine O (r_loadN (cs := ([Value.int .i64 rv54]) ++ ((rv55.1.map (Value.int .u64)) ++ ([v68]))) ti27 rfl (by simp [rv55.2]) (hs.cells (i := 1) rfl)) rfl ?_
              refine OW_storeAll ti27 hs (i := 2) rfl rfl (v := Value.agg (List.toArray (α := Value) (([Value.int .i64 rv54]) ++ ((rv55.1.map (Value.int .u64)) ++ ([v68]))))) rfl (vs := ([Value.int .i64 rv54]) ++ ((rv55.1.map (Value.int .u64)) ++ ([v68]))) rfl (one_append (one_cons rfl one_nil) (one_append vec_one (one_cons (by obtain ⟨_, _, h9⟩ := hRv68.shape; rw [h9]; rfl) one_nil))) (by simp [rv55.2]) (by simp [rv55.2, (Vec.zero 4).2]) ?_
              intro wv117 hs
              refine OW_nil ?_
              refine WP_ret ?_
              obtain rfl := Option.some.inj hM
              have hM := hKhx7
              obtain rfl := Option.some.inj hM
              refine fun hr => ?_
              have hM := congrArg some hr
              obtain rfl := Option.some.inj hM
              have hM := hKhx4
              obtain rfl := Option.some.inj hM
              refine FL_nil hds ?_
              exact ⟨_, res1 Tryd.results66 (rv_cells (vs := ([Value.int .i64 rv54]) ++ ((rv55.1.map (Value.int .u64)) ++ ([v68]))) ti27 rfl (by simp [rv55.2]) (hs.cells (i := 2) rfl)), gg58, ⟨([Value.int .i64 rv54]) ++ ((rv55.1.map (Value.int .u64)) ++ ([v68])), rfl, (tT_Regex_iff.2 ⟨[Value.int .i64 rv54], rv55.1.map (Value.int .u64), [v68], rfl, rfl, rfl, ⟨_, rfl, hRv68⟩⟩)⟩, hagi, (Sep.selT (A := [Go.Lx.box b1 52 ([encS rv1.2.s, Value.int .i64 p6, Value.bool rv1.2.bad]), Go.Lx.box b3 27 (([Value.int .i64 rv54]) ++ ((rv55.1.map (Value.int .u64)) ++ ([v68]))), Go.Lx.box b2 27 (([Value.int .i64 rv54]) ++ ((rv55.1.map (Value.int .u64)) ++ ([v68])))]) (A' := [Go.Lx.box b1 52 ([encS rv1.2.s, Value.int .i64 p6, Value.bool rv1.2.bad])]) (L := Lt) hs [0] (by decide) rfl)⟩
      · clear hs
        rintro E w ⟨rv72, rv73, rv74, rfl, gg57, v92, hE0, hE2, hE3, hds, hlegg57, hRv92, hs⟩
        have hM := hKhx7
        dsimp only [onStep] at hM
        obtain ⟨E, rfl⟩ := open1 (E := E) hE0
        obtain ⟨E, rfl⟩ := open1 (E := E) hE2
        obtain ⟨E, rfl⟩ := open1 (E := E) hE3
        replace hagi := hagi.trans hlegg57
        replace hlegg43 := hlegg43.trans hlegg57
        replace hagg43 := hagg43.trans hlegg57
        refine WP_region ?_
        refine O (r_move (v := Value.pointer (some ⟨b1, 0, none⟩)) rfl) rfl ?_
        refine O (r_nilCheck rfl) rfl ?_
        refine O (r_fieldAddr Tryd.underlying52 ti3 rfl rfl (by decide) rfl rfl) rfl ?_
        refine O (r_load (v := Value.int .i64 p6) ti3 rfl (hs.cell (i := 0) (o := 1) rfl rfl)) rfl ?_
        obtain ⟨t6, ht6, hM⟩ := bindS hM
        refine O (r_addM rfl rfl ht6) rfl ?_
        refine O (r_nilCheck rfl) rfl ?_
        refine O (r_fieldAddr Tryd.underlying52 ti3 rfl rfl (by decide) rfl rfl) rfl ?_
        refine OW_store1 ti3 hs (i := 0) rfl rfl (v := Value.int .i64 t6) rfl rfl (o := 1) (by simp) ?_
        intro wv118 hs
        refine OW_nil ?_
        obtain rfl := Option.some.inj hM
        exact ⟨gg57, v92, rfl, rfl, rfl, hds, hlegg43, hRv92, (Sep.selT (A := [Go.Lx.box b1 52 ([encS rv1.2.s, Value.int .i64 t6, Value.bool rv1.2.bad]), Go.Lx.box b3 27 (([Value.int .i64 rv72]) ++ ((rv73.1.map (Value.int .u64)) ++ ([v92]))), Go.Lx.box b2 27 (([Value.int .i64 0]) ++ (((Vec.zero 4).1.map (Value.int .u64)) ++ ([Value.slice none 0 0])))]) (A' := [Go.Lx.box b3 27 (([Value.int .i64 rv72]) ++ ((rv73.1.map (Value.int .u64)) ++ ([v92]))), Go.Lx.box b1 52 ([encS rv1.2.s, Value.int .i64 t6, Value.bool rv1.2.bad]), Go.Lx.box b2 27 (([Value.int .i64 0]) ++ (((Vec.zero 4).1.map (Value.int .u64)) ++ ([Value.slice none 0 0])))]) (L := Lt) hs [1, 0, 2] (by decide) rfl)⟩
    · refine WP_false rfl hc36 ?_
      refine WP_exit ?_
      obtain rfl := Option.some.inj hM
      refine fun hr => ?_
      have hM := congrArg some hr
      obtain rfl := Option.some.inj hM
      exact ⟨rv54, rv55, rv56, p6, rfl, gg43, v68, rfl, rfl, hds, hlegg43, hRv68, hs⟩
  · clear hs
    rintro E w ⟨rv38, rv39, rv40, rv41, rfl, gg32, v51, hE2, hE3, hds, hlegg32, hRv51, hs⟩
    have hM := hKhx4
    dsimp only [onStep] at hM
    obtain ⟨E, rfl⟩ := open1 (E := E) hE2
    obtain ⟨E, rfl⟩ := open1 (E := E) hE3
    replace hagi := hagi.trans hlegg32
    refine WP_seq ?_
    refine WP_region ?_
    refine O (r_loadN (cs := ([Value.int .i64 rv38]) ++ ((rv39.1.map (Value.int .u64)) ++ ([v51]))) ti27 rfl (by simp [rv39.2]) (hs.cells (i := 0) rfl)) rfl ?_
    refine OW_storeAll ti27 hs (i := 2) rfl rfl (v := Value.agg (List.toArray (α := Value) (([Value.int .i64 rv38]) ++ ((rv39.1.map (Value.int .u64)) ++ ([v51]))))) rfl (vs := ([Value.int .i64 rv38]) ++ ((rv39.1.map (Value.int .u64)) ++ ([v51]))) rfl (one_append (one_cons rfl one_nil) (one_append vec_one (one_cons (by obtain ⟨_, _, h9⟩ := hRv51.shape; rw [h9]; rfl) one_nil))) (by simp [rv39.2]) (by simp [rv39.2, (Vec.zero 4).2]) ?_
    intro wv119 hs
    refine OW_nil ?_
    refine WP_ret ?_
    obtain rfl := Option.some.inj hM
    refine FL_nil hds ?_
    exact ⟨_, res1 Tryd.results66 (rv_cells (vs := ([Value.int .i64 rv38]) ++ ((rv39.1.map (Value.int .u64)) ++ ([v51]))) ti27 rfl (by simp [rv39.2]) (hs.cells (i := 2) rfl)), gg32, ⟨([Value.int .i64 rv38]) ++ ((rv39.1.map (Value.int .u64)) ++ ([v51])), rfl, (tT_Regex_iff.2 ⟨[Value.int .i64 rv38], rv39.1.map (Value.int .u64), [v51], rfl, rfl, rfl, ⟨_, rfl, hRv51⟩⟩)⟩, hagi, (Sep.selT (A := [Go.Lx.box b3 27 (([Value.int .i64 rv38]) ++ ((rv39.1.map (Value.int .u64)) ++ ([v51]))), Go.Lx.box b1 52 ([encS rv1.2.s, Value.int .i64 rv41, Value.bool rv1.2.bad]), Go.Lx.box b2 27 (([Value.int .i64 rv38]) ++ ((rv39.1.map (Value.int .u64)) ++ ([v51])))]) (A' := [Go.Lx.box b1 52 ([encS rv1.2.s, Value.int .i64 rv41, Value.bool rv1.2.bad])]) (L := Lt) hs [1] (by decide) rfl)⟩

set_option maxRecDepth 100000 in
theorem ref08_parser_branch_step {fl : Nat} (ih_ref08_parser_repeat : C.ref08_parser_repeat fl) : C.ref08_parser_branch (fl + 1) := by
  intro p1 r hM g0 w0 gi wi Lt b1 hs
  unfold M.ref08_parser_branch at hM
  have hagi := Hle.refl gi
  refine calls_of_WP (args := [Value.pointer (some ⟨b1, 0, none⟩)]) Tryd.func50 rfl Tryd.ntmps50 rfl ?_
  have hds : (argEnv [Value.pointer (some ⟨b1, 0, none⟩)]).ds = [] := rfl
  refine WP_seq ?_
  refine WP_region ?_
  refine OW_alloc ti27 hs (zs := ([Value.int .i64 0]) ++ (((Vec.zero 4).1.map (Value.int .u64)) ++ ([Value.slice none 0 0]))) rfl rfl ?_
  intro b2 wv1 hs
  refine OW_nil ?_
  refine WP_seq ?_
  refine WP_region ?_
  refine O (r_assign (v := Value.slice none 0 0) rfl) rfl ?_
  refine OW_nil ?_
  obtain ⟨⟨xv7, l3, l4, l5⟩, hx4, hKhx4⟩ := bindS hM
  refine WP_cut (fun E w => ∃ (gg28 : Hp) (v34 : Value) (xs11 : List Value), E 2 = Value.pointer (some ⟨b2, 0, none⟩) ∧ E 3 = v34 ∧ E.ds = [] ∧ Hle gi gg28 ∧ RowRel tT_Regex gg28 xs11 xv7 ∧ Go.Lx.Sep g0 w0 gg28 w (Go.Lx.box b1 52 ([encS l3, Value.int .i64 l4, Value.bool l5]) :: .row v34 27 tT_Regex.sz xv7.length xs11 :: Go.Lx.box b2 27 (([Value.int .i64 0]) ++ (((Vec.zero 4).1.map (Value.int .u64)) ++ ([Value.slice none 0 0]))) :: Lt)) ?_ ?_
  · have hM := hx4
    refine WP_block ?_
    have hs := hs.nilRow 27 tT_Regex.sz
    refine WP_loop (fun (st9 : Str × Int × Bool × (List T_Regex)) E w => match st9 with | (p14, p15, p16, xv10) => ∃ (gg38 : Hp) (v46 : Value) (xs16 : List Value), E 0 = Value.pointer (some ⟨b1, 0, none⟩) ∧ E 2 = Value.pointer (some ⟨b2, 0, none⟩) ∧ E 3 = v46 ∧ E.ds = [] ∧ Hle gi gg38 ∧ RowRel tT_Regex gg38 xs16 xv10 ∧ Go.Lx.Sep g0 w0 gg38 w (.row v46 27 tT_Regex.sz xv10.length xs16 :: Go.Lx.box b2 27 (([Value.int .i64 0]) ++ (((Vec.zero 4).1.map (Value.int .u64)) ++ ([Value.slice none 0 0]))) :: Go.Lx.box b1 52 ([encS p14, Value.int .i64 p15, Value.bool p16]) :: Lt)) hM ⟨gi, (Value.slice none 0 0), [], rfl, rfl, rfl, hds, (Hle.refl _), RowRel.nil, hs⟩ ?_
    clear hs hM
    rintro ⟨p14, p15, p16, xv10⟩ o2 E w hM ⟨gg38, v46, xs16, hE0, hE2, hE3, hds, hlegg38, hrelxs16, hs⟩
    obtain ⟨E, rfl⟩ := open1 (E := E) hE0
    obtain ⟨E, rfl⟩ := open1 (E := E) hE2
    obtain ⟨E, rfl⟩ := open1 (E := E) hE3
    replace hagi := hagi.trans hlegg38
    have hagg38 := Hle.refl gg38
    refine WP_seq ?_
    obtain ⟨xv13, hx7, hKhx7⟩ := bindS hM
    refine WP_cut (fun E w => ∃ (gg51 : Hp), E 0 = Value.pointer (some ⟨b1, 0, none⟩) ∧ E 2 = Value.pointer (some ⟨b2, 0, none⟩) ∧ E 3 = v46 ∧ E 23 = Value.bool xv13 ∧ E.ds = [] ∧ Hle gg38 gg51 ∧ Go.Lx.Sep g0 w0 gg51 w (Go.Lx.box b1 52 ([encS p14, Value.int .i64 p15, Value.bool p16]) :: .row v46 27 tT_Regex.sz xv10.length xs16 :: Go.Lx.box b2 27 (([Value.int .i64 0]) ++ (((Vec.zero 4).1.map (Value.int .u64)) ++ ([Value.slice none 0 0]))) :: Lt)) ?_ ?_
    · have hM := hx7
      refine WP_region ?_
      refine O (r_move (v := Value.pointer (some ⟨b1, 0, none⟩)) rfl) rfl ?_
      refine O (r_nilCheck rfl) rfl ?_
      refine O (r_fieldAddr Tryd.underlying52 ti4 rfl rfl (by decide) rfl rfl) rfl ?_
      refine O (r_load (v := Value.bool p16) ti4 rfl (hs.cell (i := 2) (o := 2) rfl rfl)) rfl ?_
      refine O (r_not rfl) rfl ?_
      refine O (r_move (v := Value.bool (!p16)) rfl) rfl ?_
      rcases condS hM with ⟨hg34, hM⟩ | ⟨hg34, hM⟩
      · refine OG rfl rfl rfl (by rw [hg34]; rfl) (r_move (v := Value.pointer (some ⟨b1, 0, none⟩)) rfl) rfl ?_
        have hs : Go.Lx.Sep g0 w0 gg38 _ (Go.Lx.box b1 52 ([encS p14, Value.int .i64 p15, Value.bool p16]) :: .row v46 27 tT_Regex.sz xv10.length xs16 :: Go.Lx.box b2 27 (([Value.int .i64 0]) ++ (((Vec.zero 4).1.map (Value.int .u64)) ++ ([Value.slice none 0 0]))) :: Lt) := (Sep.selT (A := [.row v46 27 tT_Regex.sz xv10.length xs16, Go.Lx.box b2 27 (([Value.int .i64 0]) ++ (((Vec.zero 4).1.map (Value.int .u64)) ++ ([Value.slice none 0 0]))), Go.Lx.box b1 52 ([encS p14, Value.int .i64 p15, Value.bool p16])]) (A' := [Go.Lx.box b1 52 ([encS p14, Value.int .i64 p15, Value.bool p16]), .row v46 27 tT_Regex.sz xv10.length xs16, Go.Lx.box b2 27 (([Value.int .i64 0]) ++ (((Vec.zero 4).1.map (Value.int .u64)) ++ ([Value.slice none 0 0])))]) (L := Lt) hs [2, 0, 1] (by decide) rfl)
        obtain ⟨rv39, hrv39, hM⟩ := bindS hM
        refine CG rfl rfl rfl (by rw [hg34]; rfl) [Value.pointer (some ⟨b1, 0, none⟩)] cf51 rfl (ref08_parser_next_ok hrv39 hs) rfl ?_
        rintro v61 wv50 ⟨gg52, hvv61, hlegg52, hs⟩
        replace hrelxs16 := hrelxs16.mono hlegg52
        replace hlegg38 := hlegg38.trans hlegg52
        replace hagg38 := hagg38.trans hlegg52
        obtain ⟨cs54, rfl, hcs54⟩ := hvv61
        have hcs54 : cs54 = _ := hcs54; subst hcs54
        refine OG rfl rfl rfl (by rw [hg34]; rfl) (r_neq rfl rfl) rfl ?_
        refine O (r_pickT (v := Value.bool (rv39 != (-1))) rfl hg34 rfl) rfl ?_
        refine O (r_move (v := Value.bool (rv39 != (-1))) rfl) rfl ?_
        rcases condS hM with ⟨hg35, hM⟩ | ⟨hg35, hM⟩
        · refine OG rfl rfl rfl (by rw [hg35]; rfl) (r_move (v := Value.pointer (some ⟨b1, 0, none⟩)) rfl) rfl ?_
          obtain ⟨rv40, hrv40, hM⟩ := bindS hM
          refine CG rfl rfl rfl (by rw [hg35]; rfl) [Value.pointer (some ⟨b1, 0, none⟩)] cf51 rfl (ref08_parser_next_ok hrv40 hs) rfl ?_
          rintro v62 wv51 ⟨gg53, hvv62, hlegg53, hs⟩
          replace hrelxs16 := hrelxs16.mono hlegg53
          replace hlegg38 := hlegg38.trans hlegg53
          replace hagg38 := hagg38.trans hlegg53
          obtain ⟨cs55, rfl, hcs55⟩ := hvv62
          have hcs55 : cs55 = _ := hcs55; subst hcs55
          refine OG rfl rfl rfl (by rw [hg35]; rfl) (r_neq rfl rfl) rfl ?_
          refine O (r_pickT (v := Value.bool (rv40 != 124)) rfl hg35 rfl) rfl ?_
          refine O (r_move (v := Value.bool (rv40 != 124)) rfl) rfl ?_
          rcases condS hM with ⟨hg36, hM⟩ | ⟨hg36, hM⟩
          · refine OG rfl rfl rfl (by rw [hg36]; rfl) (r_move (v := Value.pointer (some ⟨b1, 0, none⟩)) rfl) rfl ?_
            obtain ⟨rv41, hrv41, hM⟩ := bindS hM
            refine CG rfl rfl rfl (by rw [hg36]; rfl) [Value.pointer (some ⟨b1, 0, none⟩)] cf51 rfl (ref08_parser_next_ok hrv41 hs) rfl ?_
            rintro v63 wv52 ⟨gg54, hvv63, hlegg54, hs⟩
            replace hrelxs16 := hrelxs16.mono hlegg54
            replace hlegg38 := hlegg38.trans hlegg54
            replace hagg38 := hagg38.trans hlegg54
            obtain ⟨cs56, rfl, hcs56⟩ := hvv63
            have hcs56 : cs56 = _ := hcs56; subst hcs56
            refine OG rfl rfl rfl (by rw [hg36]; rfl) (r_neq rfl rfl) rfl ?_
            refine O (r_pickT (v := Value.bool (rv41 != 41)) rfl hg36 rfl) rfl ?_
            refine OW_nil ?_
            obtain rfl := Option.some.inj hM
            exact ⟨gg54, rfl, rfl, rfl, rfl, hds, hagg38, hs⟩
          · refine OK rfl rfl rfl (by rw [hg36]; rfl) rfl ?_
            refine OK rfl rfl rfl (by rw [hg36]; rfl) rfl ?_
            refine OK rfl rfl rfl (by rw [hg36]; rfl) rfl ?_
            refine O (r_pickF (v := Value.bool false) rfl hg36 rfl) rfl ?_
            refine OW_nil ?_
            obtain rfl := Option.some.inj hM
            exact ⟨gg53, rfl, rfl, rfl, rfl, hds, hagg38, hs⟩
        · refine OK rfl rfl rfl (by rw [hg35]; rfl) rfl ?_
          refine OK rfl rfl rfl (by rw [hg35]; rfl) rfl ?_
          refine OK rfl rfl rfl (by rw [hg35]; rfl) rfl ?_
          refine O (r_pickF (v := Value.bool false) rfl hg35 rfl) rfl ?_
          refine O (r_move (v := Value.bool false) rfl) rfl ?_
          refine OK rfl rfl rfl rfl rfl ?_
          refine OK rfl rfl rfl rfl rfl ?_
          refine OK rfl rfl rfl rfl rfl ?_
          refine O (r_pickF (v := Value.bool false) rfl rfl rfl) rfl ?_
          refine OW_nil ?_
          obtain rfl := Option.some.inj hM
          exact ⟨gg52, rfl, rfl, rfl, rfl, hds, hagg38, hs⟩
      · refine OK rfl rfl rfl (by rw [hg34]; rfl) rfl ?_
        refine OK rfl rfl rfl (by rw [hg34]; rfl) rfl ?_
        refine OK rfl rfl rfl (by rw [hg34]; rfl) rfl ?_
        refine O (r_pickF (v := Value.bool false) rfl hg34 rfl) rfl ?_
        refine O (r_move (v := Value.bool false) rfl) rfl ?_
        refine OK rfl rfl rfl rfl rfl ?_
        refine OK rfl rfl rfl rfl rfl ?_
        refine OK rfl rfl rfl rfl rfl ?_
        refine O (r_pickF (v := Value.bool false) rfl rfl rfl) rfl ?_
        refine O (r_move (v := Value.bool false) rfl) rfl ?_
        refine OK rfl rfl rfl rfl rfl ?_
        refine OK rfl rfl rfl rfl rfl ?_
        refine OK rfl rfl rfl rfl rfl ?_
        refine O (r_pickF (v := Value.bool false) rfl rfl rfl) rfl ?_
        refine OW_nil ?_
        obtain rfl := Option.some.inj hM
        exact ⟨gg38, rfl, rfl, rfl, rfl, hds, (Hle.refl _), (Sep.selT (A := [.row v46 27 tT_Regex.sz xv10.length xs16, Go.Lx.box b2 27 (([Value.int .i64 0]) ++ (((Vec.zero 4).1.map (Value.int .u64)) ++ ([Value.slice none 0 0]))), Go.Lx.box b1 52 ([encS p14, Value.int .i64 p15, Value.bool p16])]) (A' := [Go.Lx.box b1 52 ([encS p14, Value.int .i64 p15, Value.bool p16]), .row v46 27 tT_Regex.sz xv10.length xs16, Go.Lx.box b2 27 (([Value.int .i64 0]) ++ (((Vec.zero 4).1.map (Value.int .u64)) ++ ([Value.slice none 0 0])))]) (L := Lt) hs [2, 0, 1] (by decide) rfl)⟩
    · clear hs
      rintro E w ⟨gg51, hE0, hE2, hE3, hE23, hds, hlegg51, hs⟩
      have hM := hKhx7
      obtain ⟨E, rfl⟩ := open1 (E := E) hE0
      obtain ⟨E, rfl⟩ := open1 (E := E) hE2
      obtain ⟨E, rfl⟩ := open1 (E := E) hE3
      obtain ⟨E, rfl⟩ := open1 (E := E) hE23
      replace hrelxs16 := hrelxs16.mono hlegg51
      replace hlegg38 := hlegg38.trans hlegg51
      replace hagg38 := hagg38.trans hlegg51
      rcases condS hM with ⟨hc6, hM⟩ | ⟨hc6, hM⟩
      · refine WP_true rfl hc6 ?_
        refine WP_skip ?_
        refine WP_block ?_
        refine WP_region ?_
        refine O (r_move (v := v46) rfl) rfl ?_
        refine O (r_move (v := Value.pointer (some ⟨b1, 0, none⟩)) rfl) rfl ?_
        obtain ⟨rv42, hrv42, hM⟩ := bindS hM
        refine C [Value.pointer (some ⟨b1, 0, none⟩)] cf66 rfl (ih_ref08_parser_repeat hrv42 hs) rfl ?_
        rintro v64 wv53 ⟨gg55, hvv64, hlegg55, hs⟩
        replace hrelxs16 := hrelxs16.mono hlegg55
        replace hlegg38 := hlegg38.trans hlegg55
        replace hagg38 := hagg38.trans hlegg55
        obtain ⟨cs57, rfl, hcs57⟩ := hvv64
        obtain ⟨cs58, cs59, cs60, rfl, hcs58, hcs59, hcs60⟩ := tT_Regex_iff.1 hcs57
        have hcs58 : cs58 = _ := hcs58; subst hcs58
        have hcs59 : cs59 = _ := hcs59; subst hcs59
        obtain ⟨v65, rfl, hRv65⟩ := hcs60
        refine OW_lit (τ := tT_Regex) [Value.agg (List.toArray (α := Value) (([Value.int .i64 rv42.1.Kind]) ++ ((rv42.1.Set.1.map (Value.int .u64)) ++ ([v65]))))] [rv42.1] Tryd.underlying25 ti27 (by decide) hs rfl rfl rfl ⟨(tT_Regex_iff.2 ⟨[Value.int .i64 rv42.1.Kind], rv42.1.Set.1.map (Value.int .u64), [v65], rfl, rfl, rfl, ⟨_, rfl, hRv65⟩⟩), trivial⟩ rfl ?_
        intro v66 wv54 xs20 hrelxs20 hs
        obtain ⟨l7, hl7, hM⟩ := bindS hM
        refine OW_append Tryd.underlying25 ti27 rfl (by decide) (by decide) hs (i := 2) rfl hrelxs16 (v := v46) rfl (u := v66) rfl (hs.rowSrc (i := 0) rfl) hrelxs20 hl7 rfl ?_
        intro v67 wv55 xs21 hrelxs21 hs
        refine O (r_assign (v := v67) rfl) rfl ?_
        refine OW_nil ?_
        obtain rfl := Option.some.inj hM
        exact ⟨gg55, v67, xs21, rfl, rfl, rfl, hds, hlegg38, hrelxs21, (Sep.selT (A := [.row v66 27 tT_Regex.sz [rv42.1].length xs20, Go.Lx.box b1 52 ([encS rv42.2.s, Value.int .i64 rv42.2.atv, Value.bool rv42.2.bad]), .row v67 27 tT_Regex.sz l7.length xs21, Go.Lx.box b2 27 (([Value.int .i64 0]) ++ (((Vec.zero 4).1.map (Value.int .u64)) ++ ([Value.slice none 0 0])))]) (A' := [.row v67 27 tT_Regex.sz l7.length xs21, Go.Lx.box b2 27 (([Value.int .i64 0]) ++ (((Vec.zero 4).1.map (Value.int .u64)) ++ ([Value.slice none 0 0]))), Go.Lx.box b1 52 ([encS rv42.2.s, Value.int .i64 rv42.2.atv, Value.bool rv42.2.bad])]) (L := Lt) hs [2, 3, 1] (by decide) rfl)⟩
      · refine WP_false rfl hc6 ?_
        refine WP_exit ?_
        obtain rfl := Option.some.inj hM
        refine fun hr => ?_
        have hM := congrArg some hr
        simp only [Option.some.injEq, Prod.mk.injEq] at hM
        obtain ⟨rfl, rfl, rfl, rfl⟩ := hM
        exact ⟨gg51, v46, xs16, rfl, rfl, hds, hlegg38, hrelxs16, hs⟩
  · clear hs
    rintro E w ⟨gg28, v34, xs11, hE2, hE3, hds, hlegg28, hrelxs11, hs⟩
    have hM := hKhx4
    obtain ⟨E, rfl⟩ := open1 (E := E) hE2
    obtain ⟨E, rfl⟩ := open1 (E := E) hE3
    replace hagi := hagi.trans hlegg28
    refine WP_seq ?_
    refine WP_seq ?_
    refine WP_region ?_
    refine O (r_move (v := v34) rfl) rfl ?_
    obtain ⟨a1, ca1, hva1⟩ := hs.rowShape (i := 1) rfl
    refine O (r_lenSl (v := v34) Tryd.underlying25 rfl hva1) rfl ?_
    refine OW_nil ?_
    refine WP_block ?_
    refine WP_seq ?_
    refine WP_region ?_
    refine O (r_eql rfl rfl) rfl ?_
    refine O (r_assign (v := Value.bool ((xv7.length : Int) == 0)) rfl) rfl ?_
    refine OW_nil ?_
    rcases condS hM with ⟨hc7, hM⟩ | ⟨hc7, hM⟩
    · refine WP_true rfl hc7 ?_
      refine WP_seq ?_
      refine WP_region ?_
      refine O (r_build (vs := [(0, Value.int .i64 2)]) (cs := ([Value.int .i64 2]) ++ (((Vec.zero 4).1.map (Value.int .u64)) ++ ([Value.slice none 0 0]))) rfl (built_fill [(0, 1), (1, 4), (5, 1)] (([Value.int .i64 0]) ++ (((Vec.zero 4).1.map (Value.int .u64)) ++ ([Value.slice none 0 0]))) (fun _ => by kernel_rfl) (fill_step ([]) ([Value.int .i64 0]) (((Vec.zero 4).1.map (Value.int .u64)) ++ ([Value.slice none 0 0])) ([Value.int .i64 2]) rfl (by simp) rfl rfl rfl rfl <| fill_done))) rfl ?_
      refine OW_storeAll ti27 hs (i := 2) rfl rfl (v := Value.agg (List.toArray (α := Value) (([Value.int .i64 2]) ++ (((Vec.zero 4).1.map (Value.int .u64)) ++ ([Value.slice none 0 0]))))) rfl (vs := ([Value.int .i64 2]) ++ (((Vec.zero 4).1.map (Value.int .u64)) ++ ([Value.slice none 0 0]))) rfl (one_append (one_cons rfl one_nil) (one_append vec_one (one_cons rfl one_nil))) (by simp [(Vec.zero 4).2]) (by simp [(Vec.zero 4).2, (Vec.zero 4).2]) ?_
      intro wv56 hs
      refine OW_nil ?_
      refine WP_ret ?_
      obtain rfl := Option.some.inj hM
      refine FL_nil hds ?_
      exact ⟨_, res1 Tryd.results50 (rv_cells (vs := ([Value.int .i64 2]) ++ (((Vec.zero 4).1.map (Value.int .u64)) ++ ([Value.slice none 0 0]))) ti27 rfl (by simp [(Vec.zero 4).2]) (hs.cells (i := 2) rfl)), gg28, ⟨([Value.int .i64 2]) ++ (((Vec.zero 4).1.map (Value.int .u64)) ++ ([Value.slice none 0 0])), rfl, (tT_Regex_iff.2 ⟨[Value.int .i64 2], (Vec.zero 4).1.map (Value.int .u64), [Value.slice none 0 0], rfl, rfl, rfl, ⟨_, rfl, RdS.nil⟩⟩)⟩, hagi, (Sep.selT (A := [Go.Lx.box b1 52 ([encS l3, Value.int .i64 l4, Value.bool l5]), .row v34 27 tT_Regex.sz xv7.length xs11, Go.Lx.box b2 27 (([Value.int .i64 2]) ++ (((Vec.zero 4).1.map (Value.int .u64)) ++ ([Value.slice none 0 0])))]) (A' := [Go.Lx.box b1 52 ([encS l3, Value.int .i64 l4, Value.bool l5])]) (L := Lt) hs [0] (by decide) rfl)⟩
    · refine WP_false rfl hc7 ?_
      refine WP_seq ?_
      refine WP_region ?_
      refine O (r_eql rfl rfl) rfl ?_
      refine O (r_assign (v := Value.bool ((xv7.length : Int) == 1)) rfl) rfl ?_
      refine OW_nil ?_
      rcases condS hM with ⟨hc8, hM⟩ | ⟨hc8, hM⟩
      · refine WP_true rfl hc8 ?_
        refine WP_seq ?_
        refine WP_region ?_
        refine O (r_move (v := v34) rfl) rfl ?_
        obtain ⟨e1, he1, hM⟩ := bindS hM
        obtain ⟨b3, cb3, hvb3, cs61, hcs61, hcb3⟩ := hs.rowEl (i := 1) rfl hrelxs11 he1
        obtain ⟨cs62, cs63, cs64, rfl, hcs62, hcs63, hcs64⟩ := tT_Regex_iff.1 hcs61
        have hcs62 : cs62 = _ := hcs62; subst hcs62
        have hcs63 : cs63 = _ := hcs63; subst hcs63
        obtain ⟨v68, rfl, hRv68⟩ := hcs64
        refine O (r_idxSl Tryd.underlying25 ti27 (v := v34) rfl hvb3 rfl (idxL_some he1).1 (idxL_some he1).2.1) rfl ?_
        refine O (r_loadEl (cs := ([Value.int .i64 e1.Kind]) ++ ((e1.Set.1.map (Value.int .u64)) ++ ([v68]))) ti27 rfl (by simp [e1.Set.2]) (.inl rfl) (hcb3 _ (hs.at (i := 1) rfl)) (v := Value.agg (List.toArray (α := Value) (([Value.int .i64 e1.Kind]) ++ ((e1.Set.1.map (Value.int .u64)) ++ ([v68]))))) rfl) rfl ?_
        refine OW_storeAll ti27 hs (i := 2) rfl rfl (v := Value.agg (List.toArray (α := Value) (([Value.int .i64 e1.Kind]) ++ ((e1.Set.1.map (Value.int .u64)) ++ ([v68]))))) rfl (vs := ([Value.int .i64 e1.Kind]) ++ ((e1.Set.1.map (Value.int .u64)) ++ ([v68]))) rfl (one_append (one_cons rfl one_nil) (one_append vec_one (one_cons (by obtain ⟨_, _, h9⟩ := hRv68.shape; rw [h9]; rfl) one_nil))) (by simp [e1.Set.2]) (by simp [e1.Set.2, (Vec.zero 4).2]) ?_
        intro wv57 hs
        refine OW_nil ?_
        refine WP_ret ?_
        obtain rfl := Option.some.inj hM
        refine FL_nil hds ?_
        exact ⟨_, res1 Tryd.results50 (rv_cells (vs := ([Value.int .i64 e1.Kind]) ++ ((e1.Set.1.map (Value.int .u64)) ++ ([v68]))) ti27 rfl (by simp [e1.Set.2]) (hs.cells (i := 2) rfl)), gg28, ⟨([Value.int .i64 e1.Kind]) ++ ((e1.Set.1.map (Value.int .u64)) ++ ([v68])), rfl, (tT_Regex_iff.2 ⟨[Value.int .i64 e1.Kind], e1.Set.1.map (Value.int .u64), [v68], rfl, rfl, rfl, ⟨_, rfl, hRv68⟩⟩)⟩, hagi, (Sep.selT (A := [Go.Lx.box b1 52 ([encS l3, Value.int .i64 l4, Value.bool l5]), .row v34 27 tT_Regex.sz xv7.length xs11, Go.Lx.box b2 27 (([Value.int .i64 e1.Kind]) ++ ((e1.Set.1.map (Value.int .u64)) ++ ([v68])))]) (A' := [Go.Lx.box b1 52 ([encS l3, Value.int .i64 l4, Value.bool l5])]) (L := Lt) hs [0] (by decide) rfl)⟩
      · refine WP_false rfl hc8 ?_
        refine WP_skip ?_
        refine WP_seq ?_
        refine WP_region ?_
        refine O (r_move (v := v34) rfl) rfl ?_
        have ho1 := one_of_shape (hs.rowShape (i := 1) rfl)
        refine O (r_build (vs := [(0, Value.int .i64 4), (2, v34)]) (cs := ([Value.int .i64 4]) ++ (((Vec.zero 4).1.map (Value.int .u64)) ++ ([v34]))) rfl (built_fill [(0, 1), (1, 4), (5, 1)] (([Value.int .i64 0]) ++ (((Vec.zero 4).1.map (Value.int .u64)) ++ ([Value.slice none 0 0]))) (fun _ => by kernel_rfl) (fill_step ([]) ([Value.int .i64 0]) (((Vec.zero 4).1.map (Value.int .u64)) ++ ([Value.slice none 0 0])) ([Value.int .i64 4]) rfl (by simp) rfl rfl rfl rfl <| fill_step (([Value.int .i64 4]) ++ ((Vec.zero 4).1.map (Value.int .u64))) ([Value.slice none 0 0]) ([]) ([v34]) rfl (by simp) (cells_one ho1) (by simp [(Vec.zero 4).2]) rfl rfl <| fill_done))) rfl ?_
        refine OW_storeAll ti27 hs (i := 2) rfl rfl (v := Value.agg (List.toArray (α := Value) (([Value.int .i64 4]) ++ (((Vec.zero 4).1.map (Value.int .u64)) ++ ([v34]))))) rfl (vs := ([Value.int .i64 4]) ++ (((Vec.zero 4).1.map (Value.int .u64)) ++ ([v34]))) rfl (one_append (one_cons rfl one_nil) (one_append vec_one (one_cons (by obtain ⟨_, _, h9⟩ := hs.rowShape (i := 1) rfl; rw [h9]; rfl) one_nil))) (by simp [(Vec.zero 4).2]) (by simp [(Vec.zero 4).2, (Vec.zero 4).2]) ?_
        intro wv58 hs
        refine OW_nil ?_
        refine WP_ret ?_
        obtain rfl := Option.some.inj hM
        obtain ⟨gg56, hlegg56, hRgg56, hs⟩ := hs.relRow (i := 1) rfl hrelxs11
        replace hagi := hagi.trans hlegg56
        refine FL_nil hds ?_
        exact ⟨_, res1 Tryd.results50 (rv_cells (vs := ([Value.int .i64 4]) ++ (((Vec.zero 4).1.map (Value.int .u64)) ++ ([v34]))) ti27 rfl (by simp [(Vec.zero 4).2]) (hs.cells (i := 1) rfl)), gg56, ⟨([Value.int .i64 4]) ++ (((Vec.zero 4).1.map (Value.int .u64)) ++ ([v34])), rfl, (tT_Regex_iff.2 ⟨[Value.int .i64 4], (Vec.zero 4).1.map (Value.int .u64), [v34], rfl, rfl, rfl, ⟨_, rfl, hRgg56⟩⟩)⟩, hagi, (Sep.selT (A := [Go.Lx.box b1 52 ([encS l3, Value.int .i64 l4, Value.bool l5]), Go.Lx.box b2 27 (([Value.int .i64 4]) ++ (((Vec.zero 4).1.map (Value.int .u64)) ++ ([v34])))]) (A' := [Go.Lx.box b1 52 ([encS l3, Value.int .i64 l4, Value.bool l5])]) (L := Lt) hs [0] (by decide) rfl)⟩

set_option maxRecDepth 100000 in
theorem ref08_parser_regex_step {fl : Nat} (ih_ref08_parser_branch : C.ref08_parser_branch fl) : C.ref08_parser_regex (fl + 1) := by
  intro p1 r hM g0 w0 gi wi Lt b1 hs
  unfold M.ref08_parser_regex at hM
  have hagi := Hle.refl gi
  refine calls_of_WP (args := [Value.pointer (some ⟨b1, 0, none⟩)]) Tryd.func34 rfl Tryd.ntmps34 rfl ?_
  have hds : (argEnv [Value.pointer (some ⟨b1, 0, none⟩)]).ds = [] := rfl
  refine WP_seq ?_
  refine WP_region ?_
  refine OW_alloc ti27 hs (zs := ([Value.int .i64 0]) ++ (((Vec.zero 4).1.map (Value.int .u64)) ++ ([Value.slice none 0 0]))) rfl rfl ?_
  intro b2 wv1 hs
  refine OW_nil ?_
  refine WP_seq ?_
  refine WP_region ?_
  refine O (r_move (v := Value.pointer (some ⟨b1, 0, none⟩)) rfl) rfl ?_
  have hs : Go.Lx.Sep g0 w0 gi _ (Go.Lx.box b1 52 ([encS p1.s, Value.int .i64 p1.atv, Value.bool p1.bad]) :: Go.Lx.box b2 27 (([Value.int .i64 0]) ++ (((Vec.zero 4).1.map (Value.int .u64)) ++ ([Value.slice none 0 0]))) :: Lt) := (Sep.selT (A := [Go.Lx.box b2 27 (([Value.int .i64 0]) ++ (((Vec.zero 4).1.map (Value.int .u64)) ++ ([Value.slice none 0 0]))), Go.Lx.box b1 52 ([encS p1.s, Value.int .i64 p1.atv, Value.bool p1.bad])]) (A' := [Go.Lx.box b1 52 ([encS p1.s, Value.int .i64 p1.atv, Value.bool p1.bad]), Go.Lx.box b2 27 (([Value.int .i64 0]) ++ (((Vec.zero 4).1.map (Value.int .u64)) ++ ([Value.slice none 0 0])))]) (L := Lt) hs [1, 0] (by decide) rfl)
  obtain ⟨rv1, hrv1, hM⟩ := bindS hM
  refine C [Value.pointer (some ⟨b1, 0, none⟩)] cf50 rfl (ih_ref08_parser_branch hrv1 hs) rfl ?_
  rintro v1 wv2 ⟨gg1, hvv1, hlegg1, hs⟩
  replace hagi := hagi.trans hlegg1
  obtain ⟨cs1, rfl, hcs1⟩ := hvv1
  obtain ⟨cs2, cs3, cs4, rfl, hcs2, hcs3, hcs4⟩ := tT_Regex_iff.1 hcs1
  have hcs2 : cs2 = _ := hcs2; subst hcs2
  have hcs3 : cs3 = _ := hcs3; subst hcs3
  obtain ⟨v2, rfl, hRv2⟩ := hcs4
  refine OW_lit (τ := tT_Regex) [Value.agg (List.toArray (α := Value) (([Value.int .i64 rv1.1.Kind]) ++ ((rv1.1.Set.1.map (Value.int .u64)) ++ ([v2]))))] [rv1.1] Tryd.underlying25 ti27 (by decide) hs rfl rfl rfl ⟨(tT_Regex_iff.2 ⟨[Value.int .i64 rv1.1.Kind], rv1.1.Set.1.map (Value.int .u64), [v2], rfl, rfl, rfl, ⟨_, rfl, hRv2⟩⟩), trivial⟩ rfl ?_
  intro v3 wv3 xs1 hrelxs1 hs
  refine O (r_assign (v := v3) rfl) rfl ?_
  refine OW_nil ?_
  obtain ⟨⟨xv7, l4, l5, l6⟩, hx4, hKhx4⟩ := bindS hM
  refine WP_cut (fun E w => ∃ (gg17 : Hp) (v25 : Value) (xs11 : List Value), E 2 = Value.pointer (some ⟨b2, 0, none⟩) ∧ E 3 = v25 ∧ E.ds = [] ∧ Hle gg1 gg17 ∧ RowRel tT_Regex gg17 xs11 xv7 ∧ Go.Lx.Sep g0 w0 gg17 w (Go.Lx.box b1 52 ([encS l4, Value.int .i64 l5, Value.bool l6]) :: .row v25 27 tT_Regex.sz xv7.length xs11 :: Go.Lx.box b2 27 (([Value.int .i64 0]) ++ (((Vec.zero 4).1.map (Value.int .u64)) ++ ([Value.slice none 0 0]))) :: Lt)) ?_ ?_
  · have hM := hx4
    have hagg1 := Hle.refl gg1
    refine WP_block ?_
    refine WP_loop (fun (st9 : Str × Int × Bool × (List T_Regex)) E w => match st9 with | (p14, p15, p16, xv10) => ∃ (gg23 : Hp) (v33 : Value) (xs15 : List Value), E 0 = Value.pointer (some ⟨b1, 0, none⟩) ∧ E 2 = Value.pointer (some ⟨b2, 0, none⟩) ∧ E 3 = v33 ∧ E.ds = [] ∧ Hle gg1 gg23 ∧ RowRel tT_Regex gg23 xs15 xv10 ∧ Go.Lx.Sep g0 w0 gg23 w (.row v33 27 tT_Regex.sz xv10.length xs15 :: Go.Lx.box b1 52 ([encS p14, Value.int .i64 p15, Value.bool p16]) :: Go.Lx.box b2 27 (([Value.int .i64 0]) ++ (((Vec.zero 4).1.map (Value.int .u64)) ++ ([Value.slice none 0 0]))) :: Lt)) hM ⟨gg1, v3, xs1, rfl, rfl, rfl, hds, (Hle.refl _), hrelxs1, hs⟩ ?_
    clear hs hM
    rintro ⟨p14, p15, p16, xv10⟩ o2 E w hM ⟨gg23, v33, xs15, hE0, hE2, hE3, hds, hlegg23, hrelxs15, hs⟩
    obtain ⟨E, rfl⟩ := open1 (E := E) hE0
    obtain ⟨E, rfl⟩ := open1 (E := E) hE2
    obtain ⟨E, rfl⟩ := open1 (E := E) hE3
    replace hagi := hagi.trans hlegg23
    replace hagg1 := hagg1.trans hlegg23
    have hagg23 := Hle.refl gg23
    refine WP_seq ?_
    obtain ⟨xv13, hx7, hKhx7⟩ := bindS hM
    refine WP_cut (fun E w => ∃ (gg30 : Hp), E 0 = Value.pointer (some ⟨b1, 0, none⟩) ∧ E 2 = Value.pointer (some ⟨b2, 0, none⟩) ∧ E 3 = v33 ∧ E 16 = Value.bool xv13 ∧ E.ds = [] ∧ Hle gg23 gg30 ∧ Go.Lx.Sep g0 w0 gg30 w (Go.Lx.box b1 52 ([encS p14, Value.int .i64 p15, Value.bool p16]) :: .row v33 27 tT_Regex.sz xv10.length xs15 :: Go.Lx.box b2 27 (([Value.int .i64 0]) ++ (((Vec.zero 4).1.map (Value.int .u64)) ++ ([Value.slice none 0 0]))) :: Lt)) ?_ ?_
    · have hM := hx7
      refine WP_region ?_
      refine O (r_move (v := Value.pointer (some ⟨b1, 0, none⟩)) rfl) rfl ?_
      refine O (r_nilCheck rfl) rfl ?_
      refine O (r_fieldAddr Tryd.underlying52 ti4 rfl rfl (by decide) rfl rfl) rfl ?_
      refine O (r_load (v := Value.bool p16) ti4 rfl (hs.cell (i := 1) (o := 2) rfl rfl)) rfl ?_
      refine O (r_not rfl) rfl ?_
      refine O (r_move (v := Value.bool (!p16)) rfl) rfl ?_
      rcases condS hM with ⟨hg12, hM⟩ | ⟨hg12, hM⟩
      · refine OG rfl rfl rfl (by rw [hg12]; rfl) (r_move (v := Value.pointer (some ⟨b1, 0, none⟩)) rfl) rfl ?_
        have hs : Go.Lx.Sep g0 w0 gg23 _ (Go.Lx.box b1 52 ([encS p14, Value.int .i64 p15, Value.bool p16]) :: .row v33 27 tT_Regex.sz xv10.length xs15 :: Go.Lx.box b2 27 (([Value.int .i64 0]) ++ (((Vec.zero 4).1.map (Value.int .u64)) ++ ([Value.slice none 0 0]))) :: Lt) := (Sep.selT (A := [.row v33 27 tT_Regex.sz xv10.length xs15, Go.Lx.box b1 52 ([encS p14, Value.int .i64 p15, Value.bool p16]), Go.Lx.box b2 27 (([Value.int .i64 0]) ++ (((Vec.zero 4).1.map (Value.int .u64)) ++ ([Value.slice none 0 0])))]) (A' := [Go.Lx.box b1 52 ([encS p14, Value.int .i64 p15, Value.bool p16]), .row v33 27 tT_Regex.sz xv10.length xs15, Go.Lx.box b2 27 (([Value.int .i64 0]) ++ (((Vec.zero 4).1.map (Value.int .u64)) ++ ([Value.slice none 0 0])))]) (L := Lt) hs [1, 0, 2] (by decide) rfl)
        obtain ⟨rv18, hrv18, hM⟩ := bindS hM
        refine CG rfl rfl rfl (by rw [hg12]; rfl) [Value.pointer (some ⟨b1, 0, none⟩)] cf51 rfl (ref08_parser_next_ok hrv18 hs) rfl ?_
        rintro v42 wv35 ⟨gg31, hvv42, hlegg31, hs⟩
        replace hrelxs15 := hrelxs15.mono hlegg31
        replace hagi := hagi.trans hlegg31
        replace hlegg23 := hlegg23.trans hlegg31
        replace hagg23 := hagg23.trans hlegg31
        obtain ⟨cs36, rfl, hcs36⟩ := hvv42
        have hcs36 : cs36 = _ := hcs36; subst hcs36
        refine OG rfl rfl rfl (by rw [hg12]; rfl) (r_eql rfl rfl) rfl ?_
        refine O (r_pickT (v := Value.bool (rv18 == 124)) rfl hg12 rfl) rfl ?_
        refine OW_nil ?_
        obtain rfl := Option.some.inj hM
        exact ⟨gg31, rfl, rfl, rfl, rfl, hds, hagg23, hs⟩
      · refine OK rfl rfl rfl (by rw [hg12]; rfl) rfl ?_
        refine OK rfl rfl rfl (by rw [hg12]; rfl) rfl ?_
        refine OK rfl rfl rfl (by rw [hg12]; rfl) rfl ?_
        refine O (r_pickF (v := Value.bool false) rfl hg12 rfl) rfl ?_
        refine OW_nil ?_
        obtain rfl := Option.some.inj hM
        exact ⟨gg23, rfl, rfl, rfl, rfl, hds, (Hle.refl _), (Sep.selT (A := [.row v33 27 tT_Regex.sz xv10.length xs15, Go.Lx.box b1 52 ([encS p14, Value.int .i64 p15, Value.bool p16]), Go.Lx.box b2 27 (([Value.int .i64 0]) ++ (((Vec.zero 4).1.map (Value.int .u64)) ++ ([Value.slice none 0 0])))]) (A' := [Go.Lx.box b1 52 ([encS p14, Value.int .i64 p15, Value.bool p16]), .row v33 27 tT_Regex.sz xv10.length xs15, Go.Lx.box b2 27 (([Value.int .i64 0]) ++ (((Vec.zero 4).1.map (Value.int .u64)) ++ ([Value.slice none 0 0])))]) (L := Lt) hs [1, 0, 2] (by decide) rfl)⟩
    · clear hs
      rintro E w ⟨gg30, hE0, hE2, hE3, hE16, hds, hlegg30, hs⟩
      have hM := hKhx7
      obtain ⟨E, rfl⟩ := open1 (E := E) hE0
      obtain ⟨E, rfl⟩ := open1 (E := E) hE2
      obtain ⟨E, rfl⟩ := open1 (E := E) hE3
      obtain ⟨E, rfl⟩ := open1 (E := E) hE16
      replace hrelxs15 := hrelxs15.mono hlegg30
      replace hagi := hagi.trans hlegg30
      replace hlegg23 := hlegg23.trans hlegg30
      replace hagg23 := hagg23.trans hlegg30
      rcases condS hM with ⟨hc6, hM⟩ | ⟨hc6, hM⟩
      · refine WP_true rfl hc6 ?_
        refine WP_skip ?_
        refine WP_block ?_
        refine WP_seq ?_
        refine WP_region ?_
        refine O (r_move (v := Value.pointer (some ⟨b1, 0, none⟩)) rfl) rfl ?_
        refine O (r_nilCheck rfl) rfl ?_
        refine O (r_fieldAddr Tryd.underlying52 ti3 rfl rfl (by decide) rfl rfl) rfl ?_
        refine O (r_load (v := Value.int .i64 p15) ti3 rfl (hs.cell (i := 0) (o := 1) rfl rfl)) rfl ?_
        obtain ⟨t6, ht6, hM⟩ := bindS hM
        refine O (r_addM rfl rfl ht6) rfl ?_
        refine O (r_nilCheck rfl) rfl ?_
        refine O (r_fieldAddr Tryd.underlying52 ti3 rfl rfl (by decide) rfl rfl) rfl ?_
        refine OW_store1 ti3 hs (i := 0) rfl rfl (v := Value.int .i64 t6) rfl rfl (o := 1) (by simp) ?_
        intro wv36 hs
        refine OW_nil ?_
        refine WP_region ?_
        refine O (r_move (v := v33) rfl) rfl ?_
        refine O (r_move (v := Value.pointer (some ⟨b1, 0, none⟩)) rfl) rfl ?_
        obtain ⟨rv19, hrv19, hM⟩ := bindS hM
        refine C [Value.pointer (some ⟨b1, 0, none⟩)] cf50 rfl (ih_ref08_parser_branch hrv19 hs) rfl ?_
        rintro v43 wv37 ⟨gg32, hvv43, hlegg32, hs⟩
        replace hrelxs15 := hrelxs15.mono hlegg32
        replace hagi := hagi.trans hlegg32
        replace hlegg23 := hlegg23.trans hlegg32
        replace hagg23 := hagg23.trans hlegg32
        obtain ⟨cs37, rfl, hcs37⟩ := hvv43
        obtain ⟨cs38, cs39, cs40, rfl, hcs38, hcs39, hcs40⟩ := tT_Regex_iff.1 hcs37
        have hcs38 : cs38 = _ := hcs38; subst hcs38
        have hcs39 : cs39 = _ := hcs39; subst hcs39
        obtain ⟨v44, rfl, hRv44⟩ := hcs40
        refine OW_lit (τ := tT_Regex) [Value.agg (List.toArray (α := Value) (([Value.int .i64 rv19.1.Kind]) ++ ((rv19.1.Set.1.map (Value.int .u64)) ++ ([v44]))))] [rv19.1] Tryd.underlying25 ti27 (by decide) hs rfl rfl rfl ⟨(tT_Regex_iff.2 ⟨[Value.int .i64 rv19.1.Kind], rv19.1.Set.1.map (Value.int .u64), [v44], rfl, rfl, rfl, ⟨_, rfl, hRv44⟩⟩), trivial⟩ rfl ?_
        intro v45 wv38 xs19 hrelxs19 hs
        obtain ⟨l9, hl9, hM⟩ := bindS hM
        refine OW_append Tryd.underlying25 ti27 rfl (by decide) (by decide) hs (i := 2) rfl hrelxs15 (v := v33) rfl (u := v45) rfl (hs.rowSrc (i := 0) rfl) hrelxs19 hl9 rfl ?_
        intro v46 wv39 xs20 hrelxs20 hs
        refine O (r_assign (v := v46) rfl) rfl ?_
        refine OW_nil ?_
        obtain rfl := Option.some.inj hM
        exact ⟨gg32, v46, xs20, rfl, rfl, rfl, hds, hlegg23, hrelxs20, (Sep.selT (A := [.row v45 27 tT_Regex.sz [rv19.1].length xs19, Go.Lx.box b1 52 ([encS rv19.2.s, Value.int .i64 rv19.2.atv, Value.bool rv19.2.bad]), .row v46 27 tT_Regex.sz l9.length xs20, Go.Lx.box b2 27 (([Value.int .i64 0]) ++ (((Vec.zero 4).1.map (Value.int .u64)) ++ ([Value.slice none 0 0])))]) (A' := [.row v46 27 tT_Regex.sz l9.length xs20, Go.Lx.box b1 52 ([encS rv19.2.s, Value.int .i64 rv19.2.atv, Value.bool rv19.2.bad]), Go.Lx.box b2 27 (([Value.int .i64 0]) ++ (((Vec.zero 4).1.map (Value.int .u64)) ++ ([Value.slice none 0 0])))]) (L := Lt) hs [2, 1, 3] (by decide) rfl)⟩
      · refine WP_false rfl hc6 ?_
        refine WP_exit ?_
        obtain rfl := Option.some.inj hM
        refine fun hr => ?_
        have hM := congrArg some hr
        simp only [Option.some.injEq, Prod.mk.injEq] at hM
        obtain ⟨rfl, rfl, rfl, rfl⟩ := hM
        exact ⟨gg30, v33, xs15, rfl, rfl, hds, hlegg23, hrelxs15, hs⟩
  · clear hs
    rintro E w ⟨gg17, v25, xs11, hE2, hE3, hds, hlegg17, hrelxs11, hs⟩
    have hM := hKhx4
    obtain ⟨E, rfl⟩ := open1 (E := E) hE2
    obtain ⟨E, rfl⟩ := open1 (E := E) hE3
    replace hagi := hagi.trans hlegg17
    refine WP_seq ?_
    refine WP_seq ?_
    refine WP_region ?_
    refine O (r_move (v := v25) rfl) rfl ?_
    obtain ⟨a1, ca1, hva1⟩ := hs.rowShape (i := 1) rfl
    refine O (r_lenSl (v := v25) Tryd.underlying25 rfl hva1) rfl ?_
    refine O (r_eql rfl rfl) rfl ?_
    refine OW_nil ?_
    rcases condS hM with ⟨hc7, hM⟩ | ⟨hc7, hM⟩
    · refine WP_true rfl hc7 ?_
      refine WP_seq ?_
      refine WP_region ?_
      refine O (r_move (v := v25) rfl) rfl ?_
      obtain ⟨e1, he1, hM⟩ := bindS hM
      obtain ⟨b3, cb3, hvb3, cs41, hcs41, hcb3⟩ := hs.rowEl (i := 1) rfl hrelxs11 he1
      obtain ⟨cs42, cs43, cs44, rfl, hcs42, hcs43, hcs44⟩ := tT_Regex_iff.1 hcs41
      have hcs42 : cs42 = _ := hcs42; subst hcs42
      have hcs43 : cs43 = _ := hcs43; subst hcs43
      obtain ⟨v47, rfl, hRv47⟩ := hcs44
      refine O (r_idxSl Tryd.underlying25 ti27 (v := v25) rfl hvb3 rfl (idxL_some he1).1 (idxL_some he1).2.1) rfl ?_
      refine O (r_loadEl (cs := ([Value.int .i64 e1.Kind]) ++ ((e1.Set.1.map (Value.int .u64)) ++ ([v47]))) ti27 rfl (by simp [e1.Set.2]) (.inl rfl) (hcb3 _ (hs.at (i := 1) rfl)) (v := Value.agg (List.toArray (α := Value) (([Value.int .i64 e1.Kind]) ++ ((e1.Set.1.map (Value.int .u64)) ++ ([v47]))))) rfl) rfl ?_
      refine OW_storeAll ti27 hs (i := 2) rfl rfl (v := Value.agg (List.toArray (α := Value) (([Value.int .i64 e1.Kind]) ++ ((e1.Set.1.map (Value.int .u64)) ++ ([v47]))))) rfl (vs := ([Value.int .i64 e1.Kind]) ++ ((e1.Set.1.map (Value.int .u64)) ++ ([v47]))) rfl (one_append (one_cons rfl one_nil) (one_append vec_one (one_cons (by obtain ⟨_, _, h9⟩ := hRv47.shape; rw [h9]; rfl) one_nil))) (by simp [e1.Set.2]) (by simp [e1.Set.2, (Vec.zero 4).2]) ?_
      intro wv40 hs
      refine OW_nil ?_
      refine WP_ret ?_
      obtain rfl := Option.some.inj hM
      refine FL_nil hds ?_
      exact ⟨_, res1 Tryd.results34 (rv_cells (vs := ([Value.int .i64 e1.Kind]) ++ ((e1.Set.1.map (Value.int .u64)) ++ ([v47]))) ti27 rfl (by simp [e1.Set.2]) (hs.cells (i := 2) rfl)), gg17, ⟨([Value.int .i64 e1.Kind]) ++ ((e1.Set.1.map (Value.int .u64)) ++ ([v47])), rfl, (tT_Regex_iff.2 ⟨[Value.int .i64 e1.Kind], e1.Set.1.map (Value.int .u64), [v47], rfl, rfl, rfl, ⟨_, rfl, hRv47⟩⟩)⟩, hagi, (Sep.selT (A := [Go.Lx.box b1 52 ([encS l4, Value.int .i64 l5, Value.bool l6]), .row v25 27 tT_Regex.sz xv7.length xs11, Go.Lx.box b2 27 (([Value.int .i64 e1.Kind]) ++ ((e1.Set.1.map (Value.int .u64)) ++ ([v47])))]) (A' := [Go.Lx.box b1 52 ([encS l4, Value.int .i64 l5, Value.bool l6])]) (L := Lt) hs [0] (by decide) rfl)⟩
    · refine WP_false rfl hc7 ?_
      refine WP_skip ?_
      refine WP_seq ?_
      refine WP_region ?_
      refine O (r_move (v := v25) rfl) rfl ?_
      have ho1 := one_of_shape (hs.rowShape (i := 1) rfl)
      refine O (r_build (vs := [(0, Value.int .i64 5), (2, v25)]) (cs := ([Value.int .i64 5]) ++ (((Vec.zero 4).1.map (Value.int .u64)) ++ ([v25]))) rfl (built_fill [(0, 1), (1, 4), (5, 1)] (([Value.int .i64 0]) ++ (((Vec.zero 4).1.map (Value.int .u64)) ++ ([Value.slice none 0 0]))) (fun _ => by kernel_rfl) (fill_step ([]) ([Value.int .i64 0]) (((Vec.zero 4).1.map (Value.int .u64)) ++ ([Value.slice none 0 0])) ([Value.int .i64 5]) rfl (by simp) rfl rfl rfl rfl <| fill_step (([Value.int .i64 5]) ++ ((Vec.zero 4).1.map (Value.int .u64))) ([Value.slice none 0 0]) ([]) ([v25]) rfl (by simp) (cells_one ho1) (by simp [(Vec.zero 4).2]) rfl rfl <| fill_done))) rfl ?_
      refine OW_storeAll ti27 hs (i := 2) rfl rfl (v := Value.agg (List.toArray (α := Value) (([Value.int .i64 5]) ++ (((Vec.zero 4).1.map (Value.int .u64)) ++ ([v25]))))) rfl (vs := ([Value.int .i64 5]) ++ (((Vec.zero 4).1.map (Value.int .u64)) ++ ([v25]))) rfl (one_append (one_cons rfl one_nil) (one_append vec_one (one_cons (by obtain ⟨_, _, h9⟩ := hs.rowShape (i := 1) rfl; rw [h9]; rfl) one_nil))) (by simp [(Vec.zero 4).2]) (by simp [(Vec.zero 4).2, (Vec.zero 4).2]) ?_
      intro wv41 hs
      refine OW_nil ?_
      refine WP_ret ?_
      obtain rfl := Option.some.inj hM
      obtain ⟨gg33, hlegg33, hRgg33, hs⟩ := hs.relRow (i := 1) rfl hrelxs11
      replace hagi := hagi.trans hlegg33
      refine FL_nil hds ?_
      exact ⟨_, res1 Tryd.results34 (rv_cells (vs := ([Value.int .i64 5]) ++ (((Vec.zero 4).1.map (Value.int .u64)) ++ ([v25]))) ti27 rfl (by simp [(Vec.zero 4).2]) (hs.cells (i := 1) rfl)), gg33, ⟨([Value.int .i64 5]) ++ (((Vec.zero 4).1.map (Value.int .u64)) ++ ([v25])), rfl, (tT_Regex_iff.2 ⟨[Value.int .i64 5], (Vec.zero 4).1.map (Value.int .u64), [v25], rfl, rfl, rfl, ⟨_, rfl, hRgg33⟩⟩)⟩, hagi, (Sep.selT (A := [Go.Lx.box b1 52 ([encS l4, Value.int .i64 l5, Value.bool l6]), Go.Lx.box b2 27 (([Value.int .i64 5]) ++ (((Vec.zero 4).1.map (Value.int .u64)) ++ ([v25])))]) (A' := [Go.Lx.box b1 52 ([encS l4, Value.int .i64 l5, Value.bool l6])]) (L := Lt) hs [0] (by decide) rfl)⟩
theorem ref08_parser_atom_zero : C.ref08_parser_atom 0 := by
  unfold C.ref08_parser_atom
  intros
  simp_all only [M.ref08_parser_atom, reduceCtorEq]
theorem ref08_parser_repeat_zero : C.ref08_parser_repeat 0 := by
  unfold C.ref08_parser_repeat
  intros
  simp_all only [M.ref08_parser_repeat, reduceCtorEq]
theorem ref08_parser_branch_zero : C.ref08_parser_branch 0 := by
  unfold C.ref08_parser_branch
  intros
  simp_all only [M.ref08_parser_branch, reduceCtorEq]
theorem ref08_parser_regex_zero : C.ref08_parser_regex 0 := by
  unfold C.ref08_parser_regex
  intros
  simp_all only [M.ref08_parser_regex, reduceCtorEq]
theorem ref08_parser_atom_all : ∀ fl, C.ref08_parser_atom fl ∧ C.ref08_parser_repeat fl ∧ C.ref08_parser_branch fl ∧ C.ref08_parser_regex fl := by
  intro fl
  induction fl with
  | zero => exact ⟨ref08_parser_atom_zero, ref08_parser_repeat_zero, ref08_parser_branch_zero, ref08_parser_regex_zero⟩
  | succ fl ih =>
    obtain ⟨ih_ref08_parser_atom, ih_ref08_parser_repeat, ih_ref08_parser_branch, ih_ref08_parser_regex⟩ := ih
    exact ⟨ref08_parser_atom_step ih_ref08_parser_regex, ref08_parser_repeat_step ih_ref08_parser_atom, ref08_parser_branch_step ih_ref08_parser_repeat, ref08_parser_regex_step ih_ref08_parser_branch⟩
theorem ref08_parser_atom_ok {fl : Nat} : C.ref08_parser_atom fl := (ref08_parser_atom_all fl).1
theorem ref08_parser_repeat_ok {fl : Nat} : C.ref08_parser_repeat fl := (ref08_parser_atom_all fl).2.1
theorem ref08_parser_branch_ok {fl : Nat} : C.ref08_parser_branch fl := (ref08_parser_atom_all fl).2.2.1
theorem ref08_parser_regex_ok {fl : Nat} : C.ref08_parser_regex fl := (ref08_parser_atom_all fl).2.2.2

set_option maxRecDepth 100000 in
theorem ref08_Parse_ok {s1 : Str} {r : T_Regex × Int × Int} (hM : M.ref08_Parse s1 = some r) {g0 : Hp} {w0 : World} (hi : Imm g0 w0) :
    CallsV Tryd.prog 17 #[encS s1] w0 (fun v w' => ∃ g', (∃ v1 v2 v3, v = .tuple #[v1, v2, v3] ∧ VRd tT_Regex true g' v1 r.1 ∧ VRd (tInt .i64) false g' v2 r.2.1 ∧ VRd (tInt .i64) false g' v3 r.2.2) ∧ Ext g0 w0 g' w') := by
  unfold M.ref08_Parse at hM
  have hs := Sep.start hi
  refine calls_of_WP (args := [encS s1]) Tryd.func17 rfl Tryd.ntmps17 rfl ?_
  have hds : (argEnv [encS s1]).ds = [] := rfl
  refine WP_seq ?_
  refine WP_region ?_
  refine OW_alloc ti27 hs (zs := ([Value.int .i64 0]) ++ (((Vec.zero 4).1.map (Value.int .u64)) ++ ([Value.slice none 0 0]))) rfl rfl ?_
  intro b1 wv1 hs
  refine O (r_assign (v := Value.int .i64 0) rfl) rfl ?_
  refine O (r_assign (v := Value.int .i64 0) rfl) rfl ?_
  refine OW_nil ?_
  refine WP_seq ?_
  refine WP_region ?_
  refine O (r_move (v := encS s1) rfl) rfl ?_
  refine O (r_build (vs := [(0, encS s1)]) (cs := [encS s1, Value.int .i64 0, Value.bool false]) rfl (by kernel_rfl)) rfl ?_
  refine OW_box (v := Value.agg (List.toArray (α := Value) [encS s1, Value.int .i64 0, Value.bool false])) rfl hs (zs := [encS s1, Value.int .i64 0, Value.bool false]) rfl rfl ?_
  intro b2 wv2 hs
  refine O (r_assign (v := Value.pointer (some ⟨b2, 0, none⟩)) rfl) rfl ?_
  refine OW_nil ?_
  refine WP_seq ?_
  refine WP_region ?_
  refine O (r_move (v := Value.pointer (some ⟨b2, 0, none⟩)) rfl) rfl ?_
  obtain ⟨rv1, hrv1, hM⟩ := bindS hM
  refine C [Value.pointer (some ⟨b2, 0, none⟩)] cf34 rfl (ref08_parser_regex_ok hrv1 hs) rfl ?_
  rintro v1 wv3 ⟨gg1, hvv1, hlegg1, hs⟩
  obtain ⟨cs1, rfl, hcs1⟩ := hvv1
  obtain ⟨cs2, cs3, cs4, rfl, hcs2, hcs3, hcs4⟩ := tT_Regex_iff.1 hcs1
  have hcs2 : cs2 = _ := hcs2; subst hcs2
  have hcs3 : cs3 = _ := hcs3; subst hcs3
  obtain ⟨v2, rfl, hRv2⟩ := hcs4
  refine OW_alloc ti27 hs (zs := ([Value.int .i64 0]) ++ (((Vec.zero 4).1.map (Value.int .u64)) ++ ([Value.slice none 0 0]))) rfl rfl ?_
  intro b3 wv4 hs
  refine OW_storeAll ti27 hs (i := 0) rfl rfl (v := Value.agg (List.toArray (α := Value) (([Value.int .i64 rv1.1.Kind]) ++ ((rv1.1.Set.1.map (Value.int .u64)) ++ ([v2]))))) rfl (vs := ([Value.int .i64 rv1.1.Kind]) ++ ((rv1.1.Set.1.map (Value.int .u64)) ++ ([v2]))) rfl (one_append (one_cons rfl one_nil) (one_append vec_one (one_cons (by obtain ⟨_, _, h9⟩ := hRv2.shape; rw [h9]; rfl) one_nil))) (by simp [rv1.1.Set.2]) (by simp [rv1.1.Set.2, (Vec.zero 4).2]) ?_
  intro wv5 hs
  refine OW_nil ?_
  refine WP_seq ?_
  obtain ⟨xv1, hx1, hKhx1⟩ := bindS hM
  refine WP_cut (fun E w => E 2 = Value.pointer (some ⟨b1, 0, none⟩) ∧ E 5 = Value.pointer (some ⟨b2, 0, none⟩) ∧ E 6 = Value.pointer (some ⟨b3, 0, none⟩) ∧ E 24 = Value.bool xv1 ∧ E.ds = [] ∧ Go.Lx.Sep g0 w0 gg1 w [Go.Lx.box b3 27 (([Value.int .i64 rv1.1.Kind]) ++ ((rv1.1.Set.1.map (Value.int .u64)) ++ ([v2]))), Go.Lx.box b2 52 ([encS rv1.2.s, Value.int .i64 rv1.2.atv, Value.bool rv1.2.bad]), Go.Lx.box b1 27 (([Value.int .i64 0]) ++ (((Vec.zero 4).1.map (Value.int .u64)) ++ ([Value.slice none 0 0])))]) ?_ ?_
  · have hM := hx1
    have hagg1 := Hle.refl gg1
    refine WP_region ?_
    refine O (r_move (v := Value.pointer (some ⟨b2, 0, none⟩)) rfl) rfl ?_
    refine O (r_nilCheck rfl) rfl ?_
    refine O (r_fieldAddr Tryd.underlying52 ti4 rfl rfl (by decide) rfl rfl) rfl ?_
    refine O (r_load (v := Value.bool rv1.2.bad) ti4 rfl (hs.cell (i := 1) (o := 2) rfl rfl)) rfl ?_
    refine O (r_move (v := Value.bool rv1.2.bad) rfl) rfl ?_
    rcases condS hM with ⟨hg2, hM⟩ | ⟨hg2, hM⟩
    · refine OK rfl rfl rfl (by rw [hg2]; rfl) rfl ?_
      refine OK rfl rfl rfl (by rw [hg2]; rfl) rfl ?_
      refine OK rfl rfl rfl (by rw [hg2]; rfl) rfl ?_
      refine OK rfl rfl rfl (by rw [hg2]; rfl) rfl ?_
      refine OK rfl rfl rfl (by rw [hg2]; rfl) rfl ?_
      refine OK rfl rfl rfl (by rw [hg2]; rfl) rfl ?_
      refine OK rfl rfl rfl (by rw [hg2]; rfl) rfl ?_
      refine O (r_pickT (v := Value.bool true) rfl hg2 rfl) rfl ?_
      refine OW_nil ?_
      obtain rfl := Option.some.inj hM
      exact ⟨rfl, rfl, rfl, rfl, hds, hs⟩
    · refine OG rfl rfl rfl (by rw [hg2]; rfl) (r_move (v := Value.pointer (some ⟨b2, 0, none⟩)) rfl) rfl ?_
      refine OG rfl rfl rfl (by rw [hg2]; rfl) (r_nilCheck rfl) rfl ?_
      refine OG rfl rfl rfl (by rw [hg2]; rfl) (r_fieldAddr Tryd.underlying52 ti3 rfl rfl (by decide) rfl rfl) rfl ?_
      refine OG rfl rfl rfl (by rw [hg2]; rfl) (r_load (v := Value.int .i64 rv1.2.atv) ti3 rfl (hs.cell (i := 1) (o := 1) rfl rfl)) rfl ?_
      refine OG rfl rfl rfl (by rw [hg2]; rfl) (r_move (v := encS s1) rfl) rfl ?_
      refine OG rfl rfl rfl (by rw [hg2]; rfl) (r_lenStr Tryd.underlying9 rfl) rfl ?_
      refine OG rfl rfl rfl (by rw [hg2]; rfl) (r_lss rfl rfl) rfl ?_
      refine O (r_pickF (v := Value.bool (decide (rv1.2.atv < (s1.length : Int)))) rfl hg2 rfl) rfl ?_
      refine OW_nil ?_
      obtain rfl := Option.some.inj hM
      exact ⟨rfl, rfl, rfl, rfl, hds, hs⟩
  · clear hs
    rintro E w ⟨hE2, hE5, hE6, hE24, hds, hs⟩
    have hM := hKhx1
    obtain ⟨E, rfl⟩ := open1 (E := E) hE2
    obtain ⟨E, rfl⟩ := open1 (E := E) hE5
    obtain ⟨E, rfl⟩ := open1 (E := E) hE6
    obtain ⟨E, rfl⟩ := open1 (E := E) hE24
    rcases condS hM with ⟨hc1, hM⟩ | ⟨hc1, hM⟩
    · refine WP_true rfl hc1 ?_
      refine WP_seq ?_
      refine WP_any (.q 0 (.q 1 (.q 2 (.q 3 (.q 4 (.s 5 (.q 6 (.q 7 (.leaf))))))))) (SS g0 w0 gg1 [Go.Lx.box b3 27 (([Value.int .i64 rv1.1.Kind]) ++ ((rv1.1.Set.1.map (Value.int .u64)) ++ ([v2]))), Go.Lx.box b2 52 ([encS rv1.2.s, Value.int .i64 rv1.2.atv, Value.bool rv1.2.bad]), Go.Lx.box b1 27 (([Value.int .i64 0]) ++ (((Vec.zero 4).1.map (Value.int .u64)) ++ ([Value.slice none 0 0])))]) mo (by decide +kernel) ?_
      have hs := hs.drew
      have hagg1 := Hle.refl gg1
      have hRv2b := hRv2
      have hS : SS g0 w0 gg1 [Go.Lx.box b3 27 (([Value.int .i64 rv1.1.Kind]) ++ ((rv1.1.Set.1.map (Value.int .u64)) ++ ([v2]))), Go.Lx.box b2 52 ([encS rv1.2.s, Value.int .i64 rv1.2.atv, Value.bool rv1.2.bad]), Go.Lx.box b1 27 (([Value.int .i64 0]) ++ (((Vec.zero 4).1.map (Value.int .u64)) ++ ([Value.slice none 0 0])))] _ := ⟨gg1, Hle.refl _, hs⟩
      refine A rfl hS (fun w9 h9 => by obtain ⟨g9, hle9, hs⟩ := h9; exact r_build (vs := []) (cs := ([Value.int .i64 0]) ++ (((Vec.zero 4).1.map (Value.int .u64)) ++ ([Value.slice none 0 0]))) rfl (built_fill [(0, 1), (1, 4), (5, 1)] (([Value.int .i64 0]) ++ (((Vec.zero 4).1.map (Value.int .u64)) ++ ([Value.slice none 0 0]))) (fun _ => by kernel_rfl) (fill_done))) rfl ?_
      refine A rfl hS (fun w9 h9 => by obtain ⟨g9, hle9, hs⟩ := h9; exact r_move (v := Value.pointer (some ⟨b2, 0, none⟩)) rfl) rfl ?_
      refine A rfl hS (fun w9 h9 => by obtain ⟨g9, hle9, hs⟩ := h9; exact r_nilCheck rfl) rfl ?_
      refine A rfl hS (fun w9 h9 => by obtain ⟨g9, hle9, hs⟩ := h9; exact r_fieldAddr Tryd.underlying52 ti3 rfl rfl (by decide) rfl rfl) rfl ?_
      refine A rfl hS (fun w9 h9 => by obtain ⟨g9, hle9, hs⟩ := h9; exact r_load (v := Value.int .i64 rv1.2.atv) ti3 rfl (hs.cell (i := 1) (o := 1) rfl rfl)) rfl ?_
      refine A1 rfl ?_
      refine OW_storeAll ti27 hs (i := 2) rfl rfl (v := Value.agg (List.toArray (α := Value) (([Value.int .i64 0]) ++ (((Vec.zero 4).1.map (Value.int .u64)) ++ ([Value.slice none 0 0]))))) rfl (vs := ([Value.int .i64 0]) ++ (((Vec.zero 4).1.map (Value.int .u64)) ++ ([Value.slice none 0 0]))) rfl (one_append (one_cons rfl one_nil) (one_append vec_one (one_cons rfl one_nil))) (by simp [(Vec.zero 4).2]) (by simp [(Vec.zero 4).2, (Vec.zero 4).2]) ?_
      intro wv6 hs
      refine OW_nil ?_
      have hS : SS g0 w0 gg1 [Go.Lx.box b3 27 (([Value.int .i64 rv1.1.Kind]) ++ ((rv1.1.Set.1.map (Value.int .u64)) ++ ([v2]))), Go.Lx.box b2 52 ([encS rv1.2.s, Value.int .i64 rv1.2.atv, Value.bool rv1.2.bad]), Go.Lx.box b1 27 (([Value.int .i64 0]) ++ (((Vec.zero 4).1.map (Value.int .u64)) ++ ([Value.slice none 0 0])))] _ := ⟨gg1, (Hle.refl _), hs⟩
      refine ⟨fun _ => hS, ?_⟩
      refine A rfl hS (fun w9 h9 => by obtain ⟨g9, hle9, hs⟩ := h9; exact r_assign (v := Value.int .i64 rv1.2.atv) rfl) rfl ?_
      refine A rfl hS (fun w9 h9 => by obtain ⟨g9, hle9, hs⟩ := h9; exact r_assign (v := Value.int .i64 3) rfl) rfl ?_
      refine AN ?_
      refine WP_ret ?_
      obtain rfl := Option.some.inj hM
      refine FL_nil hds ?_
      exact ⟨_, res3 Tryd.results17 (rv_cells (vs := ([Value.int .i64 0]) ++ (((Vec.zero 4).1.map (Value.int .u64)) ++ ([Value.slice none 0 0]))) ti27 rfl (by simp [(Vec.zero 4).2]) (hs.cells (i := 2) rfl)) (rv_tmp (v := Value.int .i64 rv1.2.atv) rfl) (rv_tmp (v := Value.int .i64 3) rfl), gg1, ⟨_, _, _, rfl, ⟨([Value.int .i64 0]) ++ (((Vec.zero 4).1.map (Value.int .u64)) ++ ([Value.slice none 0 0])), rfl, (tT_Regex_iff.2 ⟨[Value.int .i64 0], (Vec.zero 4).1.map (Value.int .u64), [Value.slice none 0 0], rfl, rfl, rfl, ⟨_, rfl, RdS.nil⟩⟩)⟩, ⟨[Value.int .i64 rv1.2.atv], rfl, rfl⟩, ⟨[Value.int .i64 3], rfl, rfl⟩⟩, hs.ext⟩
    · refine WP_false rfl hc1 ?_
      refine WP_skip ?_
      refine WP_seq ?_
      refine WP_seq ?_
      refine WP_region ?_
      refine O (r_loadN (cs := ([Value.int .i64 rv1.1.Kind]) ++ ((rv1.1.Set.1.map (Value.int .u64)) ++ ([v2]))) ti27 rfl (by simp [rv1.1.Set.2]) (hs.cells (i := 0) rfl)) rfl ?_
      obtain ⟨rv2, hrv2, hM⟩ := bindS hM
      refine C [Value.agg (List.toArray (α := Value) (([Value.int .i64 rv1.1.Kind]) ++ ((rv1.1.Set.1.map (Value.int .u64)) ++ ([v2]))))] cf15 rfl (ref08_Valid_ok hrv2 hs.imm (tT_Regex_iff.2 ⟨[Value.int .i64 rv1.1.Kind], rv1.1.Set.1.map (Value.int .u64), [v2], rfl, rfl, rfl, ⟨_, rfl, hRv2⟩⟩)) rfl ?_
      rintro v3 wv7 ⟨gg2, hvv3, hegg2⟩
      have hlegg2 := hegg2.le hs.imm
      replace hs := hs.call hegg2
      replace hRv2 := hRv2.mono hlegg2
      obtain ⟨cs5, rfl, hcs5⟩ := hvv3
      have hcs5 : cs5 = _ := hcs5; subst hcs5
      refine O (r_not rfl) rfl ?_
      refine OW_nil ?_
      rcases condS hM with ⟨hc2, hM⟩ | ⟨hc2, hM⟩
      · refine WP_true rfl hc2 ?_
        refine WP_seq ?_
        refine WP_region ?_
        refine O (r_build (vs := []) (cs := ([Value.int .i64 0]) ++ (((Vec.zero 4).1.map (Value.int .u64)) ++ ([Value.slice none 0 0]))) rfl (built_fill [(0, 1), (1, 4), (5, 1)] (([Value.int .i64 0]) ++ (((Vec.zero 4).1.map (Value.int .u64)) ++ ([Value.slice none 0 0]))) (fun _ => by kernel_rfl) (fill_done))) rfl ?_
        refine OW_storeAll ti27 hs (i := 2) rfl rfl (v := Value.agg (List.toArray (α := Value) (([Value.int .i64 0]) ++ (((Vec.zero 4).1.map (Value.int .u64)) ++ ([Value.slice none 0 0]))))) rfl (vs := ([Value.int .i64 0]) ++ (((Vec.zero 4).1.map (Value.int .u64)) ++ ([Value.slice none 0 0]))) rfl (one_append (one_cons rfl one_nil) (one_append vec_one (one_cons rfl one_nil))) (by simp [(Vec.zero 4).2]) (by simp [(Vec.zero 4).2, (Vec.zero 4).2]) ?_
        intro wv8 hs
        refine O (r_assign (v := Value.int .i64 0) rfl) rfl ?_
        refine O (r_assign (v := Value.int .i64 11) rfl) rfl ?_
        refine OW_nil ?_
        refine WP_ret ?_
        obtain rfl := Option.some.inj hM
        refine FL_nil hds ?_
        exact ⟨_, res3 Tryd.results17 (rv_cells (vs := ([Value.int .i64 0]) ++ (((Vec.zero 4).1.map (Value.int .u64)) ++ ([Value.slice none 0 0]))) ti27 rfl (by simp [(Vec.zero 4).2]) (hs.cells (i := 2) rfl)) (rv_tmp (v := Value.int .i64 0) rfl) (rv_tmp (v := Value.int .i64 11) rfl), gg2, ⟨_, _, _, rfl, ⟨([Value.int .i64 0]) ++ (((Vec.zero 4).1.map (Value.int .u64)) ++ ([Value.slice none 0 0])), rfl, (tT_Regex_iff.2 ⟨[Value.int .i64 0], (Vec.zero 4).1.map (Value.int .u64), [Value.slice none 0 0], rfl, rfl, rfl, ⟨_, rfl, RdS.nil⟩⟩)⟩, ⟨[Value.int .i64 0], rfl, rfl⟩, ⟨[Value.int .i64 11], rfl, rfl⟩⟩, hs.ext⟩
      · refine WP_false rfl hc2 ?_
        refine WP_skip ?_
        refine WP_seq ?_
        refine WP_region ?_
        refine O (r_loadN (cs := ([Value.int .i64 rv1.1.Kind]) ++ ((rv1.1.Set.1.map (Value.int .u64)) ++ ([v2]))) ti27 rfl (by simp [rv1.1.Set.2]) (hs.cells (i := 0) rfl)) rfl ?_
        refine OW_storeAll ti27 hs (i := 2) rfl rfl (v := Value.agg (List.toArray (α := Value) (([Value.int .i64 rv1.1.Kind]) ++ ((rv1.1.Set.1.map (Value.int .u64)) ++ ([v2]))))) rfl (vs := ([Value.int .i64 rv1.1.Kind]) ++ ((rv1.1.Set.1.map (Value.int .u64)) ++ ([v2]))) rfl (one_append (one_cons rfl one_nil) (one_append vec_one (one_cons (by obtain ⟨_, _, h9⟩ := hRv2.shape; rw [h9]; rfl) one_nil))) (by simp [rv1.1.Set.2]) (by simp [rv1.1.Set.2, (Vec.zero 4).2]) ?_
        intro wv9 hs
        refine O (r_assign (v := Value.int .i64 0) rfl) rfl ?_
        refine O (r_assign (v := Value.int .i64 0) rfl) rfl ?_
        refine OW_nil ?_
        refine WP_ret ?_
        obtain rfl := Option.some.inj hM
        refine FL_nil hds ?_
        exact ⟨_, res3 Tryd.results17 (rv_cells (vs := ([Value.int .i64 rv1.1.Kind]) ++ ((rv1.1.Set.1.map (Value.int .u64)) ++ ([v2]))) ti27 rfl (by simp [rv1.1.Set.2]) (hs.cells (i := 2) rfl)) (rv_tmp (v := Value.int .i64 0) rfl) (rv_tmp (v := Value.int .i64 0) rfl), gg2, ⟨_, _, _, rfl, ⟨([Value.int .i64 rv1.1.Kind]) ++ ((rv1.1.Set.1.map (Value.int .u64)) ++ ([v2])), rfl, (tT_Regex_iff.2 ⟨[Value.int .i64 rv1.1.Kind], rv1.1.Set.1.map (Value.int .u64), [v2], rfl, rfl, rfl, ⟨_, rfl, hRv2⟩⟩)⟩, ⟨[Value.int .i64 0], rfl, rfl⟩, ⟨[Value.int .i64 0], rfl, rfl⟩⟩, hs.ext⟩


end Go.Proofs.YtffienmbeifioaaDoor
