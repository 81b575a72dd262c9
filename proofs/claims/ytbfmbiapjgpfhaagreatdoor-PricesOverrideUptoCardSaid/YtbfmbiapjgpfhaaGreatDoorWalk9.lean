/- The walks: what each function does is what its model says. Printed by a program of my own. -/
import Derived.Test.YtbfmbiapjgpfhaaGreatDoorTyp
set_option linter.unusedVariables false
set_option linter.unusedSimpArgs false
namespace Go.Proofs.YtbfmbiapjgpfhaaGreatDoor
open Go.Lx Go.RowKit
set_option maxRecDepth 100000 in
theorem ref16_Decimal_ok {nv1 : Int} {r : Str} (hM : M.ref16_Decimal nv1 = some r) {g0 : Hp} {w0 : World} (hi : Imm g0 w0) :
    CallsV Tryz.prog 21 #[I6 nv1] w0 (fun v w' => ∃ g', (VRd tStr false g' v r) ∧ Ext g0 w0 g' w') := by
 unfold M.ref16_Decimal at hM;have hs := Sep.start hi;refine calls_of_WP Tryz.func21 rfl Tryz.ntmps21 rfl ?_;have hds := nods;refine SR <| Oa (encS []) rfl <| NR <| Om (I6 nv1) rfl ?_;obtain ⟨t1, ht1, hM⟩ := bindS hM;refine O (r_remM rfl rfl ht1) rfl ?_;obtain ⟨t2, ht2, hM⟩ := bindS hM;refine O (r_addM rfl rfl ht2) rfl <| O (r_conv Tryz.underlying3 Tryz.underlying5 rfl) rfl <| OW_lit (τ := (tInt .u8)) [U8 (IntKind.u8.wrap t2)] [(IntKind.u8.wrap t2)] Tryz.underlying56 ti5 (by decide) hs rfl rfl rfl ⟨rfl, trivial⟩ rfl fun v1 wv1 xs1 hrelxs1 hs => O (r_toStr (l := [(IntKind.u8.wrap t2)]) Tryz.underlying56 Tryz.underlying5 Tryz.underlying9 (v := v1) rfl (hs.rowSrc (i := 0) rfl) hrelxs1) rfl <| Oa (encS (toStr [(IntKind.u8.wrap t2)])) rfl <| OW_nil ?_;obtain ⟨s7, hx1, hKhx1⟩ := bindS hM;refine WP_cut (fun E w => Ev E [3] [encS s7] ∧ E.ds = [] ∧ Sp g0 w0 g0 w []) ?_ ?_
 ·have hM := hx1;refine SR <| Om (I6 nv1) rfl ?_;obtain ⟨t13, ht13, hM⟩ := bindS hM;refine O (r_quoM rfl rfl ht13) rfl <| Oa (I6 t13) rfl <| OW_nil <| WP_block <| WP_loop (fun (st9 : Int × Str) E w => match st9 with | (nv6, s10) => Ev E [0, 3] [I6 nv6, encS s10] ∧ E.ds = [] ∧ Sp g0 w0 g0 w []) hM ⟨rfl, hds, (hs.kp 0 rfl)⟩ ?_;rintro ⟨nv6, s10⟩ o2 E w hM ⟨hE, hds, hs⟩;obtain ⟨E, rfl⟩ := oe2 hE;refine WP_seq <| SR <| Om (I6 nv6) rfl <| O (r_gtr rfl rfl) rfl <| OW_nil ?_;rcases condS hM with ⟨hc6, hM⟩ | ⟨hc6, hM⟩
  ·refine WP_true rfl hc6 <| WP_skip <| WP_seq <| WP_block <| WP_region <| Om (I6 nv6) rfl ?_;obtain ⟨t20, ht20, hM⟩ := bindS hM;refine O (r_remM rfl rfl ht20) rfl ?_;obtain ⟨t21, ht21, hM⟩ := bindS hM;refine O (r_addM rfl rfl ht21) rfl <| O (r_conv Tryz.underlying3 Tryz.underlying5 rfl) rfl <| OW_lit (τ := (tInt .u8)) [U8 (IntKind.u8.wrap t21)] [(IntKind.u8.wrap t21)] Tryz.underlying56 ti5 (by decide) hs rfl rfl rfl ⟨rfl, trivial⟩ rfl fun v7 wv7 xs7 hrelxs7 hs => O (r_toStr (l := [(IntKind.u8.wrap t21)]) Tryz.underlying56 Tryz.underlying5 Tryz.underlying9 (v := v7) rfl (hs.rowSrc (i := 0) rfl) hrelxs7) rfl <| Om (encS s10) rfl ?_;obtain ⟨s13, hs13, hM⟩ := bindS hM;refine O (r_catS rfl rfl hs13) rfl <| Oa (encS s13) rfl <| OW_nil <| WP_region <| Om (I6 nv6) rfl ?_;obtain ⟨t22, ht22, hM⟩ := bindS hM;refine O (r_quoM rfl rfl ht22) rfl <| Oa (I6 t22) rfl <| OW_nil ?_;obtain rfl := si hM;exact ⟨rfl, hds, (hs.kp 0 rfl)⟩
  refine WP_false rfl hc6 <| WP_exit ?_;obtain rfl := si hM;rintro rfl;exact ⟨rfl, hds, hs⟩
 clear hs;rintro E w ⟨hE, hds, hs⟩;have hM := hKhx1;obtain ⟨E, rfl⟩ := oe1 hE;refine SR <| Om (encS s7) rfl <| Oa (encS s7) rfl <| OW_nil <| WP_ret ?_;obtain rfl := si hM;exact FL_nil hds ⟨_, res1 Tryz.results21 (rv_tmp (v := encS s7) rfl), g0, ⟨[encS s7], rfl, rfl⟩, hs.ext⟩


end Go.Proofs.YtbfmbiapjgpfhaaGreatDoor
