/- The walks: what each function does is what its model says. Printed by a program of my own. -/
import Derived.Test.YtbfmbiapjgpfhaaGreatDoorTyp
set_option linter.unusedVariables false
set_option linter.unusedSimpArgs false
namespace Go.Proofs.YtbfmbiapjgpfhaaGreatDoor
open Go.Lx Go.RowKit
set_option maxRecDepth 100000 in
theorem ref34_between_ok {nv1 : Int} {lo1 : Int} {hiv1 : Int} {r : Bool} (hM : M.ref34_between nv1 lo1 hiv1 = some r) {g0 : Hp} {w0 : World} (hi : Imm g0 w0) :
    CallsV Tryz.prog 24 #[I6 nv1, I6 lo1, I6 hiv1] w0 (fun v w' => ∃ g', (VRd tBool false g' v r) ∧ Ext g0 w0 g' w') := by
 unfold M.ref34_between at hM;have hs := Sep.start hi;refine calls_of_WP Tryz.func24 rfl Tryz.ntmps24 rfl ?_;have hds := nods;refine SR <| Oa (Bo false) rfl <| OW_nil ?_;obtain ⟨xv1, hx1, hKhx1⟩ := bindS hM;refine WP_cut (fun E w => Ev E [6] [Bo xv1] ∧ E.ds = [] ∧ Sp g0 w0 g0 w []) ?_ ?_
 ·have hM := hx1;refine WP_region <| Om (I6 nv1) rfl <| Om (I6 lo1) rfl <| O (r_geq rfl rfl) rfl <| Om (Bo (decide (lo1 ≤ nv1))) rfl ?_;rcases condS hM with ⟨hg2, hM⟩ | ⟨hg2, hM⟩
  ·refine Im hg2 (I6 nv1) rfl <| Im hg2 (I6 hiv1) rfl <| OI hg2 rfl (r_leq rfl rfl) <| O (r_pickT (v := Bo (decide (nv1 ≤ hiv1))) rfl hg2 rfl) rfl <| Oa (Bo (decide (nv1 ≤ hiv1))) rfl <| OW_nil ?_;obtain rfl := si hM;exact ⟨rfl, hds, hs⟩
  refine OJ hg2 rfl <| OJ hg2 rfl <| OJ hg2 rfl <| O (r_pickF (v := Bo false) rfl hg2 rfl) rfl <| Oa (Bo false) rfl <| OW_nil ?_;obtain rfl := si hM;exact ⟨rfl, hds, hs⟩
 clear hs;rintro E w ⟨hE, hds, hs⟩;have hM := hKhx1;obtain ⟨E, rfl⟩ := oe1 hE;refine WP_ret ?_;obtain rfl := si hM;exact FL_nil hds ⟨_, res1 Tryz.results24 (rv_tmp (v := Bo xv1) rfl), g0, ⟨[Bo xv1], rfl, rfl⟩, hs.ext⟩


end Go.Proofs.YtbfmbiapjgpfhaaGreatDoor
