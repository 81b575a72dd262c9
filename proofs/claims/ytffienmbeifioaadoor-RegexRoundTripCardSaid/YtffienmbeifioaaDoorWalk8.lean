/- The walks: what each function does is what its model says. Printed by a program of my own. -/
import Derived.Test.YtffienmbeifioaaDoorTyp
set_option linter.unusedVariables false
set_option linter.unusedSimpArgs false
namespace Go.Proofs.YtffienmbeifioaaDoor
open Go.Lx Go.RowKit
set_option maxRecDepth 100000 in
theorem ref08_Has_ok {s1 : (Vec 4)} {b1 : Int} {r : Bool} (hM : M.ref08_Has s1 b1 = some r) {g0 : Hp} {w0 : World} (hi : Imm g0 w0) :
    CallsV Tryd.prog 52 #[encV .u64 s1, Value.int .i64 b1] w0 (fun v w' => ∃ g', (VRd tBool false g' v r) ∧ Ext g0 w0 g' w') := by
  unfold M.ref08_Has at hM
  have hs := Sep.start hi
  refine calls_of_WP (args := [encV .u64 s1, Value.int .i64 b1]) Tryd.func52 rfl Tryd.ntmps52 rfl ?_
  have hds : (argEnv [encV .u64 s1, Value.int .i64 b1]).ds = [] := rfl
  refine WP_seq ?_
  refine WP_region ?_
  refine OW_box (v := encV .u64 s1) rfl hs (zs := s1.1.map (Value.int .u64)) rfl rfl ?_
  intro b2 wv1 hs
  refine O (r_assign (v := Value.bool false) rfl) rfl ?_
  refine OW_nil ?_
  refine WP_seq ?_
  refine WP_region ?_
  refine O (r_move (v := Value.int .i64 b1) rfl) rfl ?_
  obtain ⟨t1, ht1, hM⟩ := bindS hM
  refine O (r_quoM rfl rfl ht1) rfl ?_
  obtain ⟨c1, hc1, hM⟩ := bindS hM
  refine O (r_idxArr Tryd.underlying24 ti22 rfl rfl (vget_some hc1).1 (vget_some hc1).2.1) rfl ?_
  refine O (r_load ti22 rfl (hs.cell (i := 0) rfl (vget_cell hc1))) rfl ?_
  refine O (r_move (v := Value.int .i64 b1) rfl) rfl ?_
  obtain ⟨t2, ht2, hM⟩ := bindS hM
  refine O (r_remM rfl rfl ht2) rfl ?_
  refine O (r_conv Tryd.underlying3 Tryd.underlying83 rfl) rfl ?_
  obtain ⟨t3, ht3, hM⟩ := bindS hM
  refine O (r_shrM rfl rfl ht3) rfl ?_
  refine O (r_and rfl rfl) rfl ?_
  refine O (r_eql rfl rfl) rfl ?_
  refine O (r_assign (v := Value.bool ((bits .and .u64 t3 1) == 1)) rfl) rfl ?_
  refine OW_nil ?_
  refine WP_ret ?_
  obtain rfl := Option.some.inj hM
  refine FL_nil hds ?_
  exact ⟨_, res1 Tryd.results52 (rv_tmp (v := Value.bool ((bits .and .u64 t3 1) == 1)) rfl), g0, ⟨[Value.bool ((bits .and .u64 t3 1) == 1)], rfl, rfl⟩, hs.ext⟩


end Go.Proofs.YtffienmbeifioaaDoor
