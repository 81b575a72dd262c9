/- The walks: what each function does is what its model says. Printed by a program of my own. -/
import Derived.Test.YtbfmbiapjgpfhaaGreatDoorTyp
set_option linter.unusedVariables false
set_option linter.unusedSimpArgs false
namespace Go.Proofs.YtbfmbiapjgpfhaaGreatDoor
open Go.Lx Go.RowKit
set_option maxRecDepth 100000 in
theorem law34_short_ok {terms1 : (List Str)} {r : Bool} (hM : M.law34_short terms1 = some r) {g0 : Hp} {w0 : World} (hi : Imm g0 w0) {v1 : Value} (hRv1 : RdS tStr g0 v1 terms1) :
    CallsV Tryz.prog 16 #[v1] w0 (fun v w' => ∃ g', (VRd tBool false g' v r) ∧ Ext g0 w0 g' w') := by
 unfold M.law34_short at hM;have hs := Sep.start hi;refine calls_of_WP Tryz.func16 rfl Tryz.ntmps16 rfl ?_;have hds := nods;refine SR <| Oa (Bo false) rfl <| OW_nil ?_;obtain ⟨o3, hx4, hKhx4⟩ := stepS hM;refine WP_cut (fun E w => ∃ u9 : Unit, o3 = .next u9 ∧ Ev E [0] [v1] ∧ E.ds = [] ∧ Sp g0 w0 g0 w []) ?_ ?_
 ·have hM := hx4;refine SR <| Oa (I6 0) rfl <| OW_nil <| WP_block <| WP_loop (fun (i5 : Int) E w => Ev E [0, 3] [v1, I6 i5] ∧ E.ds = [] ∧ Sp g0 w0 g0 w []) hM ⟨rfl, hds, hs⟩ ?_;rintro i5 o2 E w hM ⟨hE, hds, hs⟩;obtain ⟨E, rfl⟩ := oe2 hE;refine WP_seq ?_;obtain ⟨xv6, hx7, hKhx7⟩ := bindS hM;refine WP_cut (fun E w => Ev E [0, 3, 11] [v1, I6 i5, Bo xv6] ∧ E.ds = [] ∧ Sp g0 w0 g0 w []) ?_ ?_
  ·have hM := hx7;refine WP_region <| Om (I6 i5) rfl <| Om v1 rfl ?_;obtain ⟨a12, ca12, hva12⟩ := hRv1.shape;refine O (r_lenSl (v := v1) Tryz.underlying31 rfl hva12) rfl <| O (r_lss rfl rfl) rfl <| Om (Bo (decide (i5 < (terms1.length : Int)))) rfl ?_;rcases condS hM with ⟨hg12, hM⟩ | ⟨hg12, hM⟩
   ·refine Im hg12 (I6 i5) rfl <| OI hg12 rfl (r_lss rfl rfl) <| O (r_pickT (v := Bo (decide (i5 < 8))) rfl hg12 rfl) rfl <| OW_nil ?_;obtain rfl := si hM;exact ⟨rfl, hds, hs⟩
   refine OJ hg12 rfl <| OJ hg12 rfl <| O (r_pickF (v := Bo false) rfl hg12 rfl) rfl <| OW_nil ?_;obtain rfl := si hM;exact ⟨rfl, hds, hs⟩
  clear hs;rintro E w ⟨hE, hds, hs⟩;have hM := hKhx7;obtain ⟨E, rfl⟩ := oe3 hE;rcases condS hM with ⟨hc11, hM⟩ | ⟨hc11, hM⟩
  ·refine WP_true rfl hc11 <| WP_skip <| WP_seq <| WP_block <| SR <| Om v1 rfl <| Om (I6 i5) rfl ?_;obtain ⟨e6, he6, hM⟩ := bindS hM;obtain ⟨b6, ob6, cb6, hvb6, _, rfl, hcb6⟩ := hRv1.at he6;refine O (r_idxSl Tryz.underlying31 ti9 (v := v1) rfl hvb6 rfl (idxL_some he6).1 (idxL_some he6).2.1) rfl <| Oc (encS e6) ti9 (hcb6 _ hs.imm) rfl rfl <| O (r_lenStr Tryz.underlying9 rfl) rfl <| O (r_gtr rfl rfl) rfl <| OW_nil ?_;rcases condS hM with ⟨hc12, hM⟩ | ⟨hc12, hM⟩
   ·refine WP_true rfl hc12 <| SR <| Oa (Bo false) rfl <| OW_nil <| WP_ret ?_;obtain rfl := si hM;rintro rfl;have hM := hKhx4;obtain rfl := si hM;exact FL_nil hds ⟨_, res1 Tryz.results16 (rv_tmp (v := Bo false) rfl), g0, ⟨[Bo false], rfl, rfl⟩, hs.ext⟩
   refine WP_false rfl hc12 <| WP_skip <| WP_region <| Om (I6 i5) rfl ?_;obtain ⟨t6, ht6, hM⟩ := bindS hM;refine O (r_addM rfl rfl ht6) rfl <| Oa (I6 t6) rfl <| OW_nil ?_;obtain rfl := si hM;exact ⟨rfl, hds, hs⟩
  refine WP_false rfl hc11 <| WP_exit ?_;obtain rfl := si hM;rintro rfl;exact ⟨(), rfl, rfl, hds, hs⟩
 clear hs;rintro E w ⟨_, rfl, hE, hds, hs⟩;have hM := onNext hKhx4;obtain ⟨E, rfl⟩ := oe1 hE;refine SR <| Om v1 rfl ?_;obtain ⟨a13, ca13, hva13⟩ := hRv1.shape;refine O (r_lenSl (v := v1) Tryz.underlying31 rfl hva13) rfl <| O (r_leq rfl rfl) rfl <| Oa (Bo (decide ((terms1.length : Int) ≤ 8))) rfl <| OW_nil <| WP_ret ?_;obtain rfl := si hM;exact FL_nil hds ⟨_, res1 Tryz.results16 (rv_tmp (v := Bo (decide ((terms1.length : Int) ≤ 8))) rfl), g0, ⟨[Bo (decide ((terms1.length : Int) ≤ 8))], rfl, rfl⟩, hs.ext⟩


end Go.Proofs.YtbfmbiapjgpfhaaGreatDoor
