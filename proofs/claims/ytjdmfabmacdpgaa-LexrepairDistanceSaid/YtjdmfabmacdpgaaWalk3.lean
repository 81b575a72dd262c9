/- The walks: what each function does is what its model says. Printed by a program of my own. -/
import Derived.Test.YtjdmfabmacdpgaaTyp
import Derived.Test.YtjdmfabmacdpgaaWalk1
import Derived.Test.YtjdmfabmacdpgaaWalk2
set_option linter.unusedVariables false
set_option linter.unusedSimpArgs false
namespace Go.Proofs.Ytjdmfabmacdpgaa
open Go.Lx Go.RowKit
def C.regex_reader_atom (fl : Nat) : Prop := ∀ {p1 : T_regex_reader} {r : Rt (T_Regex × T_regex_reader)} (_ : M.regex_reader_atom fl p1 = some r) {g0 : Hp} {w0 : World} {gi : Hp} {wi : World} {Lt : List Res} {b1 : Nat} (hs : Sep g0 w0 gi wi (Go.Lx.box b1 65 ([encS p1.s, Value.int .i64 p1.atv]) :: Lt)),
    CallsX Try.prog 42 #[Value.pointer (some ⟨b1, 0, none⟩)] wi 62 r (fun r v w' => ∃ g', (VRd tT_Regex true g' v r.1) ∧ Hle gi g' ∧ Sep g0 w0 g' w' (Go.Lx.box b1 65 ([encS r.2.s, Value.int .i64 r.2.atv]) :: Lt)) (fun w' => ∃ g', Hle gi g' ∧ Sep g0 w0 g' w' Lt)
def C.regex_reader_repeat (fl : Nat) : Prop := ∀ {p1 : T_regex_reader} {r : Rt (T_Regex × T_regex_reader)} (_ : M.regex_reader_repeat fl p1 = some r) {g0 : Hp} {w0 : World} {gi : Hp} {wi : World} {Lt : List Res} {b1 : Nat} (hs : Sep g0 w0 gi wi (Go.Lx.box b1 65 ([encS p1.s, Value.int .i64 p1.atv]) :: Lt)),
    CallsX Try.prog 36 #[Value.pointer (some ⟨b1, 0, none⟩)] wi 62 r (fun r v w' => ∃ g', (VRd tT_Regex true g' v r.1) ∧ Hle gi g' ∧ Sep g0 w0 g' w' (Go.Lx.box b1 65 ([encS r.2.s, Value.int .i64 r.2.atv]) :: Lt)) (fun w' => ∃ g', Hle gi g' ∧ Sep g0 w0 g' w' Lt)
def C.regex_reader_branch (fl : Nat) : Prop := ∀ {p1 : T_regex_reader} {r : Rt (T_Regex × T_regex_reader)} (_ : M.regex_reader_branch fl p1 = some r) {g0 : Hp} {w0 : World} {gi : Hp} {wi : World} {Lt : List Res} {b1 : Nat} (hs : Sep g0 w0 gi wi (Go.Lx.box b1 65 ([encS p1.s, Value.int .i64 p1.atv]) :: Lt)),
    CallsX Try.prog 28 #[Value.pointer (some ⟨b1, 0, none⟩)] wi 62 r (fun r v w' => ∃ g', (VRd tT_Regex true g' v r.1) ∧ Hle gi g' ∧ Sep g0 w0 g' w' (Go.Lx.box b1 65 ([encS r.2.s, Value.int .i64 r.2.atv]) :: Lt)) (fun w' => ∃ g', Hle gi g' ∧ Sep g0 w0 g' w' Lt)
def C.regex_reader_regex (fl : Nat) : Prop := ∀ {p1 : T_regex_reader} {r : Rt (T_Regex × T_regex_reader)} (_ : M.regex_reader_regex fl p1 = some r) {g0 : Hp} {w0 : World} {gi : Hp} {wi : World} {Lt : List Res} {b1 : Nat} (hs : Sep g0 w0 gi wi (Go.Lx.box b1 65 ([encS p1.s, Value.int .i64 p1.atv]) :: Lt)),
    CallsX Try.prog 22 #[Value.pointer (some ⟨b1, 0, none⟩)] wi 62 r (fun r v w' => ∃ g', (VRd tT_Regex true g' v r.1) ∧ Hle gi g' ∧ Sep g0 w0 g' w' (Go.Lx.box b1 65 ([encS r.2.s, Value.int .i64 r.2.atv]) :: Lt)) (fun w' => ∃ g', Hle gi g' ∧ Sep g0 w0 g' w' Lt)
set_option maxRecDepth 100000 in
theorem regex_reader_atom_step {fl : Nat} (ih_regex_reader_regex : C.regex_reader_regex fl) : C.regex_reader_atom (fl + 1) := by
 intro p1 r hM g0 w0 gi wi Lt b1 hs
 unfold M.regex_reader_atom at hM
 have hagi := Hle.refl gi
 refine calls_of_WPX (args := [Value.pointer (some ⟨b1, 0, none⟩)]) Try.func42 rfl Try.ntmps42 rfl ?_
 have hds : (argEnv [Value.pointer (some ⟨b1, 0, none⟩)]).ds = [] := rfl
 refine WP_seq <| WP_region <| OW_alloc ti54 hs (zs := ([Value.int .i64 0]) ++ (((Vec.zero 4).1.map (Value.int .u64)) ++ ([Value.slice none 0 0]))) rfl rfl ?_
 intro b2 wv1 hs
 refine OW_nil <| WP_seq <| WP_seq <| WP_region <| O (r_move (v := Value.pointer (some ⟨b1, 0, none⟩)) rfl) rfl ?_
 have hs : Go.Lx.Sep g0 w0 gi _ (Go.Lx.box b1 65 ([encS p1.s, Value.int .i64 p1.atv]) :: Go.Lx.box b2 54 (([Value.int .i64 0]) ++ (((Vec.zero 4).1.map (Value.int .u64)) ++ ([Value.slice none 0 0]))) :: Lt) := (Sep.selT (A := [Go.Lx.box b2 54 (([Value.int .i64 0]) ++ (((Vec.zero 4).1.map (Value.int .u64)) ++ ([Value.slice none 0 0]))), Go.Lx.box b1 65 ([encS p1.s, Value.int .i64 p1.atv])]) (A' := [Go.Lx.box b1 65 ([encS p1.s, Value.int .i64 p1.atv]), Go.Lx.box b2 54 (([Value.int .i64 0]) ++ (((Vec.zero 4).1.map (Value.int .u64)) ++ ([Value.slice none 0 0])))]) (L := Lt) hs [1, 0] (by decide) rfl)
 obtain ⟨rv1, hrv1, hM⟩ := bindS hM
 refine C [Value.pointer (some ⟨b1, 0, none⟩)] cf29 rfl (regex_reader_peek_ok hrv1 hs) rfl ?_
 rintro v1 wv2 ⟨gg1, hvv1, hlegg1, hs⟩
 replace hagi := hagi.trans hlegg1
 obtain ⟨cs1, rfl, hcs1⟩ := hvv1
 have hcs1 : cs1 = _ := hcs1; subst hcs1
 refine OW_nil <| WP_block <| WP_seq <| WP_region <| O (r_eql rfl rfl) rfl <| O (r_assign (v := Value.bool (rv1 == 40)) rfl) rfl <| OW_nil ?_
 rcases condS hM with ⟨hc1, hM⟩ | ⟨hc1, hM⟩
 ·refine WP_true rfl hc1 <| WP_seq <| WP_region <| O (r_move (v := Value.pointer (some ⟨b1, 0, none⟩)) rfl) rfl <| O (r_nilCheck rfl) rfl <| O (r_fieldAddr Try.underlying65 ti3 rfl rfl (by decide) rfl rfl) rfl <| O (r_load (v := Value.int .i64 p1.atv) ti3 rfl (hs.cell (i := 0) (o := 1) rfl rfl)) rfl ?_
  obtain ⟨t1, ht1, hM⟩ := bindS hM
  refine O (r_addM rfl rfl ht1) rfl <| O (r_nilCheck rfl) rfl <| O (r_fieldAddr Try.underlying65 ti3 rfl rfl (by decide) rfl rfl) rfl <| OW_store1 ti3 hs (i := 0) rfl rfl (v := Value.int .i64 t1) rfl rfl (o := 1) (by simp) ?_
  intro wv3 hs
  refine OW_nil <| WP_seq <| WP_region <| O (r_move (v := Value.pointer (some ⟨b1, 0, none⟩)) rfl) rfl ?_
  rcases rtS hM with ⟨rv2, hrv2, hM⟩ | ⟨px1, hpx1, hM⟩
  ·refine C [Value.pointer (some ⟨b1, 0, none⟩)] cf22 rfl (ih_regex_reader_regex hrv2 hs) rfl ?_
   rintro v2 wv5 ⟨gg3, hvv2, hlegg3, hs⟩
   replace hagi := hagi.trans hlegg3
   obtain ⟨cs2, rfl, hcs2⟩ := hvv2
   obtain ⟨cs3, cs4, cs5, rfl, hcs3, hcs4, hcs5⟩ := tT_Regex_iff.1 hcs2
   have hcs3 : cs3 = _ := hcs3; subst hcs3
   have hcs4 : cs4 = _ := hcs4; subst hcs4
   obtain ⟨v3, rfl, hRv3⟩ := hcs5
   refine OW_alloc ti54 hs (zs := ([Value.int .i64 0]) ++ (((Vec.zero 4).1.map (Value.int .u64)) ++ ([Value.slice none 0 0]))) rfl rfl ?_
   intro b3 wv6 hs
   refine OW_storeAll ti54 hs (i := 0) rfl rfl (v := Value.agg (List.toArray (α := Value) (([Value.int .i64 rv2.1.Kind]) ++ ((rv2.1.Set.1.map (Value.int .u64)) ++ ([v3]))))) rfl (vs := ([Value.int .i64 rv2.1.Kind]) ++ ((rv2.1.Set.1.map (Value.int .u64)) ++ ([v3]))) rfl (one_append (one_cons rfl one_nil) (one_append vec_one (one_cons (by obtain ⟨_, _, h9⟩ := hRv3.shape; rw [h9]; rfl) one_nil))) (by simp [rv2.1.Set.2]) (by simp [rv2.1.Set.2, (Vec.zero 4).2]) ?_
   intro wv7 hs
   refine OW_nil <| WP_seq <| WP_region <| O (r_move (v := Value.pointer (some ⟨b1, 0, none⟩)) rfl) rfl ?_
   have hs : Go.Lx.Sep g0 w0 gg3 _ (Go.Lx.box b1 65 ([encS rv2.2.s, Value.int .i64 rv2.2.atv]) :: Go.Lx.box b3 54 (([Value.int .i64 rv2.1.Kind]) ++ ((rv2.1.Set.1.map (Value.int .u64)) ++ ([v3]))) :: Go.Lx.box b2 54 (([Value.int .i64 0]) ++ (((Vec.zero 4).1.map (Value.int .u64)) ++ ([Value.slice none 0 0]))) :: Lt) := (Sep.selT (A := [Go.Lx.box b3 54 (([Value.int .i64 rv2.1.Kind]) ++ ((rv2.1.Set.1.map (Value.int .u64)) ++ ([v3]))), Go.Lx.box b1 65 ([encS rv2.2.s, Value.int .i64 rv2.2.atv]), Go.Lx.box b2 54 (([Value.int .i64 0]) ++ (((Vec.zero 4).1.map (Value.int .u64)) ++ ([Value.slice none 0 0])))]) (A' := [Go.Lx.box b1 65 ([encS rv2.2.s, Value.int .i64 rv2.2.atv]), Go.Lx.box b3 54 (([Value.int .i64 rv2.1.Kind]) ++ ((rv2.1.Set.1.map (Value.int .u64)) ++ ([v3]))), Go.Lx.box b2 54 (([Value.int .i64 0]) ++ (((Vec.zero 4).1.map (Value.int .u64)) ++ ([Value.slice none 0 0])))]) (L := Lt) hs [1, 0, 2] (by decide) rfl)
   rcases rtS hM with ⟨rv3, hrv3, hM⟩ | ⟨px2, hpx2, hM⟩
   ·refine C [Value.pointer (some ⟨b1, 0, none⟩), Value.int .u8 41] cf45 rfl (regex_reader_expect_ok hrv3 hs) rfl ?_
    rintro v4 wv9 ⟨gg5, hvv4, hlegg5, hs⟩
    replace hRv3 := hRv3.mono hlegg5
    replace hagi := hagi.trans hlegg5
    refine OW_nil <| WP_seq <| WP_region <| O (r_loadN (cs := ([Value.int .i64 rv2.1.Kind]) ++ ((rv2.1.Set.1.map (Value.int .u64)) ++ ([v3]))) ti54 rfl (by simp [rv2.1.Set.2]) (hs.cells (i := 1) rfl)) rfl <| OW_storeAll ti54 hs (i := 2) rfl rfl (v := Value.agg (List.toArray (α := Value) (([Value.int .i64 rv2.1.Kind]) ++ ((rv2.1.Set.1.map (Value.int .u64)) ++ ([v3]))))) rfl (vs := ([Value.int .i64 rv2.1.Kind]) ++ ((rv2.1.Set.1.map (Value.int .u64)) ++ ([v3]))) rfl (one_append (one_cons rfl one_nil) (one_append vec_one (one_cons (by obtain ⟨_, _, h9⟩ := hRv3.shape; rw [h9]; rfl) one_nil))) (by simp [rv2.1.Set.2]) (by simp [rv2.1.Set.2, (Vec.zero 4).2]) ?_
    intro wv10 hs
    refine OW_nil <| WP_ret ?_
    obtain rfl := Option.some.inj hM
    refine FL_nil hds ?_
    exact ⟨_, res1 Try.results42 (rv_cells (vs := ([Value.int .i64 rv2.1.Kind]) ++ ((rv2.1.Set.1.map (Value.int .u64)) ++ ([v3]))) ti54 rfl (by simp [rv2.1.Set.2]) (hs.cells (i := 2) rfl)), gg5, ⟨([Value.int .i64 rv2.1.Kind]) ++ ((rv2.1.Set.1.map (Value.int .u64)) ++ ([v3])), rfl, (tT_Regex_iff.2 ⟨[Value.int .i64 rv2.1.Kind], rv2.1.Set.1.map (Value.int .u64), [v3], rfl, rfl, rfl, ⟨_, rfl, hRv3⟩⟩)⟩, hagi, (Sep.selT (A := [Go.Lx.box b1 65 ([encS rv3.s, Value.int .i64 rv3.atv]), Go.Lx.box b3 54 (([Value.int .i64 rv2.1.Kind]) ++ ((rv2.1.Set.1.map (Value.int .u64)) ++ ([v3]))), Go.Lx.box b2 54 (([Value.int .i64 rv2.1.Kind]) ++ ((rv2.1.Set.1.map (Value.int .u64)) ++ ([v3])))]) (A' := [Go.Lx.box b1 65 ([encS rv3.s, Value.int .i64 rv3.atv])]) (L := Lt) hs [0] (by decide) rfl)⟩
   ·refine CN [Value.pointer (some ⟨b1, 0, none⟩), Value.int .u8 41] cf45 rfl (regex_reader_expect_ok hpx2 hs) ?_
    rintro wv8 ⟨gg4, hlegg4, hs⟩
    replace hagi := hagi.trans hlegg4
    obtain rfl := Option.some.inj hM
    exact ⟨rfl, hds, gg4, hagi, Sep.tail (A := [Go.Lx.box b3 54 (([Value.int .i64 rv2.1.Kind]) ++ ((rv2.1.Set.1.map (Value.int .u64)) ++ ([v3]))), Go.Lx.box b2 54 (([Value.int .i64 0]) ++ (((Vec.zero 4).1.map (Value.int .u64)) ++ ([Value.slice none 0 0])))]) (L := Lt) hs⟩
  ·refine CN [Value.pointer (some ⟨b1, 0, none⟩)] cf22 rfl (ih_regex_reader_regex hpx1 hs) ?_
   rintro wv4 ⟨gg2, hlegg2, hs⟩
   replace hagi := hagi.trans hlegg2
   obtain rfl := Option.some.inj hM
   exact ⟨rfl, hds, gg2, hagi, Sep.tail (A := [Go.Lx.box b2 54 (([Value.int .i64 0]) ++ (((Vec.zero 4).1.map (Value.int .u64)) ++ ([Value.slice none 0 0])))]) (L := Lt) hs⟩
 ·refine WP_false rfl hc1 <| WP_seq <| WP_region <| O (r_eql rfl rfl) rfl <| O (r_assign (v := Value.bool (rv1 == 91)) rfl) rfl <| OW_nil ?_
  rcases condS hM with ⟨hc2, hM⟩ | ⟨hc2, hM⟩
  ·refine WP_true rfl hc2 <| WP_seq <| WP_region <| O (r_move (v := Value.pointer (some ⟨b1, 0, none⟩)) rfl) rfl ?_
   rcases rtS hM with ⟨rv4, hrv4, hM⟩ | ⟨px3, hpx3, hM⟩
   ·refine C [Value.pointer (some ⟨b1, 0, none⟩)] cf46 rfl (regex_reader_bracket_ok hrv4 hs) rfl ?_
    rintro v5 wv12 ⟨gg7, hvv5, hlegg7, hs⟩
    replace hagi := hagi.trans hlegg7
    obtain ⟨cs6, rfl, hcs6⟩ := hvv5
    have hcs6 : cs6 = _ := hcs6; subst hcs6
    refine O (r_build (vs := [(0, Value.int .i64 3), (1, encV .u64 rv4.1)]) (cs := ([Value.int .i64 3]) ++ ((rv4.1.1.map (Value.int .u64)) ++ ([Value.slice none 0 0]))) rfl (built_fill [(0, 1), (1, 4), (5, 1)] (([Value.int .i64 0]) ++ (((Vec.zero 4).1.map (Value.int .u64)) ++ ([Value.slice none 0 0]))) (fun _ => by kernel_rfl) (fill_step ([]) ([Value.int .i64 0]) (((Vec.zero 4).1.map (Value.int .u64)) ++ ([Value.slice none 0 0])) ([Value.int .i64 3]) rfl (by simp) rfl rfl rfl rfl <| fill_step ([Value.int .i64 3]) ((Vec.zero 4).1.map (Value.int .u64)) ([Value.slice none 0 0]) (rv4.1.1.map (Value.int .u64)) rfl (by simp) rfl rfl (by simp [(Vec.zero 4).2]) (by simp [rv4.1.2]) <| fill_done))) rfl <| OW_storeAll ti54 hs (i := 1) rfl rfl (v := Value.agg (List.toArray (α := Value) (([Value.int .i64 3]) ++ ((rv4.1.1.map (Value.int .u64)) ++ ([Value.slice none 0 0]))))) rfl (vs := ([Value.int .i64 3]) ++ ((rv4.1.1.map (Value.int .u64)) ++ ([Value.slice none 0 0]))) rfl (one_append (one_cons rfl one_nil) (one_append vec_one (one_cons rfl one_nil))) (by simp [rv4.1.2]) (by simp [rv4.1.2, (Vec.zero 4).2]) ?_
    intro wv13 hs
    refine OW_nil <| WP_ret ?_
    obtain rfl := Option.some.inj hM
    refine FL_nil hds ?_
    exact ⟨_, res1 Try.results42 (rv_cells (vs := ([Value.int .i64 3]) ++ ((rv4.1.1.map (Value.int .u64)) ++ ([Value.slice none 0 0]))) ti54 rfl (by simp [rv4.1.2]) (hs.cells (i := 1) rfl)), gg7, ⟨([Value.int .i64 3]) ++ ((rv4.1.1.map (Value.int .u64)) ++ ([Value.slice none 0 0])), rfl, (tT_Regex_iff.2 ⟨[Value.int .i64 3], rv4.1.1.map (Value.int .u64), [Value.slice none 0 0], rfl, rfl, rfl, ⟨_, rfl, RdS.nil⟩⟩)⟩, hagi, (Sep.selT (A := [Go.Lx.box b1 65 ([encS rv4.2.s, Value.int .i64 rv4.2.atv]), Go.Lx.box b2 54 (([Value.int .i64 3]) ++ ((rv4.1.1.map (Value.int .u64)) ++ ([Value.slice none 0 0])))]) (A' := [Go.Lx.box b1 65 ([encS rv4.2.s, Value.int .i64 rv4.2.atv])]) (L := Lt) hs [0] (by decide) rfl)⟩
   ·refine CN [Value.pointer (some ⟨b1, 0, none⟩)] cf46 rfl (regex_reader_bracket_ok hpx3 hs) ?_
    rintro wv11 ⟨gg6, hlegg6, hs⟩
    replace hagi := hagi.trans hlegg6
    obtain rfl := Option.some.inj hM
    exact ⟨rfl, hds, gg6, hagi, Sep.tail (A := [Go.Lx.box b2 54 (([Value.int .i64 0]) ++ (((Vec.zero 4).1.map (Value.int .u64)) ++ ([Value.slice none 0 0])))]) (L := Lt) hs⟩
  ·refine WP_false rfl hc2 <| WP_seq <| WP_region <| O (r_eql rfl rfl) rfl <| O (r_assign (v := Value.bool (rv1 == 46)) rfl) rfl <| OW_nil ?_
   rcases condS hM with ⟨hc3, hM⟩ | ⟨hc3, hM⟩
   ·refine WP_true rfl hc3 <| WP_seq <| WP_region <| O (r_move (v := Value.pointer (some ⟨b1, 0, none⟩)) rfl) rfl <| O (r_nilCheck rfl) rfl <| O (r_fieldAddr Try.underlying65 ti3 rfl rfl (by decide) rfl rfl) rfl <| O (r_load (v := Value.int .i64 p1.atv) ti3 rfl (hs.cell (i := 0) (o := 1) rfl rfl)) rfl ?_
    obtain ⟨t2, ht2, hM⟩ := bindS hM
    refine O (r_addM rfl rfl ht2) rfl <| O (r_nilCheck rfl) rfl <| O (r_fieldAddr Try.underlying65 ti3 rfl rfl (by decide) rfl rfl) rfl <| OW_store1 ti3 hs (i := 0) rfl rfl (v := Value.int .i64 t2) rfl rfl (o := 1) (by simp) ?_
    intro wv14 hs
    refine OW_nil <| WP_seq <| WP_region ?_
    obtain ⟨rv5, hrv5, hM⟩ := bindS hM
    refine C [] cf47 rfl (regex_dot_ok hrv5 hs.imm) rfl ?_
    rintro v6 wv15 ⟨gg8, hvv6, hegg8⟩
    have hlegg8 := hegg8.le hs.imm
    replace hs := hs.call hegg8
    replace hagi := hagi.trans hlegg8
    obtain ⟨cs7, rfl, hcs7⟩ := hvv6
    have hcs7 : cs7 = _ := hcs7; subst hcs7
    refine O (r_build (vs := [(0, Value.int .i64 3), (1, encV .u64 rv5)]) (cs := ([Value.int .i64 3]) ++ ((rv5.1.map (Value.int .u64)) ++ ([Value.slice none 0 0]))) rfl (built_fill [(0, 1), (1, 4), (5, 1)] (([Value.int .i64 0]) ++ (((Vec.zero 4).1.map (Value.int .u64)) ++ ([Value.slice none 0 0]))) (fun _ => by kernel_rfl) (fill_step ([]) ([Value.int .i64 0]) (((Vec.zero 4).1.map (Value.int .u64)) ++ ([Value.slice none 0 0])) ([Value.int .i64 3]) rfl (by simp) rfl rfl rfl rfl <| fill_step ([Value.int .i64 3]) ((Vec.zero 4).1.map (Value.int .u64)) ([Value.slice none 0 0]) (rv5.1.map (Value.int .u64)) rfl (by simp) rfl rfl (by simp [(Vec.zero 4).2]) (by simp [rv5.2]) <| fill_done))) rfl <| OW_storeAll ti54 hs (i := 1) rfl rfl (v := Value.agg (List.toArray (α := Value) (([Value.int .i64 3]) ++ ((rv5.1.map (Value.int .u64)) ++ ([Value.slice none 0 0]))))) rfl (vs := ([Value.int .i64 3]) ++ ((rv5.1.map (Value.int .u64)) ++ ([Value.slice none 0 0]))) rfl (one_append (one_cons rfl one_nil) (one_append vec_one (one_cons rfl one_nil))) (by simp [rv5.2]) (by simp [rv5.2, (Vec.zero 4).2]) ?_
    intro wv16 hs
    refine OW_nil <| WP_ret ?_
    obtain rfl := Option.some.inj hM
    refine FL_nil hds ?_
    exact ⟨_, res1 Try.results42 (rv_cells (vs := ([Value.int .i64 3]) ++ ((rv5.1.map (Value.int .u64)) ++ ([Value.slice none 0 0]))) ti54 rfl (by simp [rv5.2]) (hs.cells (i := 1) rfl)), gg8, ⟨([Value.int .i64 3]) ++ ((rv5.1.map (Value.int .u64)) ++ ([Value.slice none 0 0])), rfl, (tT_Regex_iff.2 ⟨[Value.int .i64 3], rv5.1.map (Value.int .u64), [Value.slice none 0 0], rfl, rfl, rfl, ⟨_, rfl, RdS.nil⟩⟩)⟩, hagi, (Sep.selT (A := [Go.Lx.box b1 65 ([encS p1.s, Value.int .i64 t2]), Go.Lx.box b2 54 (([Value.int .i64 3]) ++ ((rv5.1.map (Value.int .u64)) ++ ([Value.slice none 0 0])))]) (A' := [Go.Lx.box b1 65 ([encS p1.s, Value.int .i64 t2])]) (L := Lt) hs [0] (by decide) rfl)⟩
   ·refine WP_false rfl hc3 <| WP_skip <| WP_seq <| WP_region <| O (r_move (v := Value.pointer (some ⟨b1, 0, none⟩)) rfl) rfl ?_
    rcases rtS hM with ⟨b4, hb4, hM⟩ | ⟨px4, hpx4, hM⟩
    ·refine C [Value.pointer (some ⟨b1, 0, none⟩), encS [40, 41, 91, 93, 124, 42, 43, 63, 46, 92]] cf48 rfl (regex_reader_char_ok hb4 hs) rfl ?_
     rintro v7 wv18 ⟨gg10, hvv7, hlegg10, hs⟩
     replace hagi := hagi.trans hlegg10
     obtain ⟨cs8, rfl, hcs8⟩ := hvv7
     have hcs8 : cs8 = _ := hcs8; subst hcs8
     refine O (r_assign (v := Value.int .u8 b4.1) rfl) rfl <| OW_nil <| WP_seq <| WP_region <| O (r_move (v := Value.int .u8 b4.1) rfl) rfl <| O (r_move (v := Value.int .u8 b4.1) rfl) rfl ?_
     obtain ⟨rv6, hrv6, hM⟩ := bindS hM
     refine C [Value.int .u8 b4.1, Value.int .u8 b4.1] cf49 rfl (byteset_Range_ok hrv6 hs.imm) rfl ?_
     rintro v8 wv19 ⟨gg11, hvv8, hegg11⟩
     have hlegg11 := hegg11.le hs.imm
     replace hs := hs.call hegg11
     replace hagi := hagi.trans hlegg11
     obtain ⟨cs9, rfl, hcs9⟩ := hvv8
     have hcs9 : cs9 = _ := hcs9; subst hcs9
     refine O (r_build (vs := [(0, Value.int .i64 3), (1, encV .u64 rv6)]) (cs := ([Value.int .i64 3]) ++ ((rv6.1.map (Value.int .u64)) ++ ([Value.slice none 0 0]))) rfl (built_fill [(0, 1), (1, 4), (5, 1)] (([Value.int .i64 0]) ++ (((Vec.zero 4).1.map (Value.int .u64)) ++ ([Value.slice none 0 0]))) (fun _ => by kernel_rfl) (fill_step ([]) ([Value.int .i64 0]) (((Vec.zero 4).1.map (Value.int .u64)) ++ ([Value.slice none 0 0])) ([Value.int .i64 3]) rfl (by simp) rfl rfl rfl rfl <| fill_step ([Value.int .i64 3]) ((Vec.zero 4).1.map (Value.int .u64)) ([Value.slice none 0 0]) (rv6.1.map (Value.int .u64)) rfl (by simp) rfl rfl (by simp [(Vec.zero 4).2]) (by simp [rv6.2]) <| fill_done))) rfl <| OW_storeAll ti54 hs (i := 1) rfl rfl (v := Value.agg (List.toArray (α := Value) (([Value.int .i64 3]) ++ ((rv6.1.map (Value.int .u64)) ++ ([Value.slice none 0 0]))))) rfl (vs := ([Value.int .i64 3]) ++ ((rv6.1.map (Value.int .u64)) ++ ([Value.slice none 0 0]))) rfl (one_append (one_cons rfl one_nil) (one_append vec_one (one_cons rfl one_nil))) (by simp [rv6.2]) (by simp [rv6.2, (Vec.zero 4).2]) ?_
     intro wv20 hs
     refine OW_nil <| WP_ret ?_
     obtain rfl := Option.some.inj hM
     refine FL_nil hds ?_
     exact ⟨_, res1 Try.results42 (rv_cells (vs := ([Value.int .i64 3]) ++ ((rv6.1.map (Value.int .u64)) ++ ([Value.slice none 0 0]))) ti54 rfl (by simp [rv6.2]) (hs.cells (i := 1) rfl)), gg11, ⟨([Value.int .i64 3]) ++ ((rv6.1.map (Value.int .u64)) ++ ([Value.slice none 0 0])), rfl, (tT_Regex_iff.2 ⟨[Value.int .i64 3], rv6.1.map (Value.int .u64), [Value.slice none 0 0], rfl, rfl, rfl, ⟨_, rfl, RdS.nil⟩⟩)⟩, hagi, (Sep.selT (A := [Go.Lx.box b1 65 ([encS b4.2.s, Value.int .i64 b4.2.atv]), Go.Lx.box b2 54 (([Value.int .i64 3]) ++ ((rv6.1.map (Value.int .u64)) ++ ([Value.slice none 0 0])))]) (A' := [Go.Lx.box b1 65 ([encS b4.2.s, Value.int .i64 b4.2.atv])]) (L := Lt) hs [0] (by decide) rfl)⟩
    ·refine CN [Value.pointer (some ⟨b1, 0, none⟩), encS [40, 41, 91, 93, 124, 42, 43, 63, 46, 92]] cf48 rfl (regex_reader_char_ok hpx4 hs) ?_
     rintro wv17 ⟨gg9, hlegg9, hs⟩
     replace hagi := hagi.trans hlegg9
     obtain rfl := Option.some.inj hM
     exact ⟨rfl, hds, gg9, hagi, Sep.tail (A := [Go.Lx.box b2 54 (([Value.int .i64 0]) ++ (((Vec.zero 4).1.map (Value.int .u64)) ++ ([Value.slice none 0 0])))]) (L := Lt) hs⟩

set_option maxRecDepth 100000 in
theorem regex_reader_repeat_step {fl : Nat} (ih_regex_reader_atom : C.regex_reader_atom fl) : C.regex_reader_repeat (fl + 1) := by
 intro p1 r hM g0 w0 gi wi Lt b1 hs
 unfold M.regex_reader_repeat at hM
 have hagi := Hle.refl gi
 refine calls_of_WPX (args := [Value.pointer (some ⟨b1, 0, none⟩)]) Try.func36 rfl Try.ntmps36 rfl ?_
 have hds : (argEnv [Value.pointer (some ⟨b1, 0, none⟩)]).ds = [] := rfl
 refine WP_seq <| WP_region <| OW_alloc ti54 hs (zs := ([Value.int .i64 0]) ++ (((Vec.zero 4).1.map (Value.int .u64)) ++ ([Value.slice none 0 0]))) rfl rfl ?_
 intro b2 wv1 hs
 refine OW_nil <| WP_seq <| WP_region <| O (r_move (v := Value.pointer (some ⟨b1, 0, none⟩)) rfl) rfl ?_
 have hs : Go.Lx.Sep g0 w0 gi _ (Go.Lx.box b1 65 ([encS p1.s, Value.int .i64 p1.atv]) :: Go.Lx.box b2 54 (([Value.int .i64 0]) ++ (((Vec.zero 4).1.map (Value.int .u64)) ++ ([Value.slice none 0 0]))) :: Lt) := (Sep.selT (A := [Go.Lx.box b2 54 (([Value.int .i64 0]) ++ (((Vec.zero 4).1.map (Value.int .u64)) ++ ([Value.slice none 0 0]))), Go.Lx.box b1 65 ([encS p1.s, Value.int .i64 p1.atv])]) (A' := [Go.Lx.box b1 65 ([encS p1.s, Value.int .i64 p1.atv]), Go.Lx.box b2 54 (([Value.int .i64 0]) ++ (((Vec.zero 4).1.map (Value.int .u64)) ++ ([Value.slice none 0 0])))]) (L := Lt) hs [1, 0] (by decide) rfl)
 rcases rtS hM with ⟨rv1, hrv1, hM⟩ | ⟨px1, hpx1, hM⟩
 ·refine C [Value.pointer (some ⟨b1, 0, none⟩)] cf42 rfl (ih_regex_reader_atom hrv1 hs) rfl ?_
  rintro v1 wv3 ⟨gg2, hvv1, hlegg2, hs⟩
  replace hagi := hagi.trans hlegg2
  obtain ⟨cs1, rfl, hcs1⟩ := hvv1
  obtain ⟨cs2, cs3, cs4, rfl, hcs2, hcs3, hcs4⟩ := tT_Regex_iff.1 hcs1
  have hcs2 : cs2 = _ := hcs2; subst hcs2
  have hcs3 : cs3 = _ := hcs3; subst hcs3
  obtain ⟨v2, rfl, hRv2⟩ := hcs4
  refine OW_alloc ti54 hs (zs := ([Value.int .i64 0]) ++ (((Vec.zero 4).1.map (Value.int .u64)) ++ ([Value.slice none 0 0]))) rfl rfl ?_
  intro b3 wv4 hs
  refine OW_storeAll ti54 hs (i := 0) rfl rfl (v := Value.agg (List.toArray (α := Value) (([Value.int .i64 rv1.1.Kind]) ++ ((rv1.1.Set.1.map (Value.int .u64)) ++ ([v2]))))) rfl (vs := ([Value.int .i64 rv1.1.Kind]) ++ ((rv1.1.Set.1.map (Value.int .u64)) ++ ([v2]))) rfl (one_append (one_cons rfl one_nil) (one_append vec_one (one_cons (by obtain ⟨_, _, h9⟩ := hRv2.shape; rw [h9]; rfl) one_nil))) (by simp [rv1.1.Set.2]) (by simp [rv1.1.Set.2, (Vec.zero 4).2]) ?_
  intro wv5 hs
  refine OW_nil <| WP_block ?_
  have hagg2 := Hle.refl gg2
  refine WP_loop (fun (st9 : Int × Int × (Vec 4) × (List T_Regex)) E w => match st9 with | (p3, rv8, rv9, rv10) => ∃ (gg9 : Hp) (v12 : Value), E 0 = Value.pointer (some ⟨b1, 0, none⟩) ∧ E 2 = Value.pointer (some ⟨b2, 0, none⟩) ∧ E 3 = Value.pointer (some ⟨b3, 0, none⟩) ∧ E.ds = [] ∧ Hle gg2 gg9 ∧ RdS tT_Regex gg9 v12 rv10 ∧ Go.Lx.Sep g0 w0 gg9 w (Go.Lx.box b3 54 (([Value.int .i64 rv8]) ++ ((rv9.1.map (Value.int .u64)) ++ ([v12]))) :: Go.Lx.box b1 65 ([encS rv1.2.s, Value.int .i64 p3]) :: Go.Lx.box b2 54 (([Value.int .i64 0]) ++ (((Vec.zero 4).1.map (Value.int .u64)) ++ ([Value.slice none 0 0]))) :: Lt)) hM ⟨gg2, v2, rfl, rfl, rfl, hds, (Hle.refl _), hRv2, hs⟩ ?_
  clear hs hM
  rintro ⟨p3, rv8, rv9, rv10⟩ o3 E w hM ⟨gg9, v12, hE0, hE2, hE3, hds, hlegg9, hRv12, hs⟩
  obtain ⟨E, rfl⟩ := open3 (E := E) hE0 hE2 hE3
  replace hagi := hagi.trans hlegg9
  have hagg9 := Hle.refl gg9
  refine WP_block <| WP_seq <| WP_region <| O (r_loadN (cs := ([Value.int .i64 rv8]) ++ ((rv9.1.map (Value.int .u64)) ++ ([v12]))) ti54 rfl (by simp [rv9.2]) (hs.cells (i := 0) rfl)) rfl <| OW_lit (τ := tT_Regex) [Value.agg (List.toArray (α := Value) (([Value.int .i64 rv8]) ++ ((rv9.1.map (Value.int .u64)) ++ ([v12]))))] [(T_Regex.mk rv8 rv9 rv10)] Try.underlying52 ti54 (by decide) hs rfl rfl rfl ⟨(tT_Regex_iff.2 ⟨[Value.int .i64 rv8], rv9.1.map (Value.int .u64), [v12], rfl, rfl, rfl, ⟨_, rfl, hRv12⟩⟩), trivial⟩ rfl ?_
  intro v22 wv42 xs13 hrelxs13 hs
  have ho11 := one_of_shape (hs.rowShape (i := 0) rfl)
  refine O (r_build (vs := [(0, Value.int .i64 6), (2, v22)]) (cs := ([Value.int .i64 6]) ++ (((Vec.zero 4).1.map (Value.int .u64)) ++ ([v22]))) rfl (built_fill [(0, 1), (1, 4), (5, 1)] (([Value.int .i64 0]) ++ (((Vec.zero 4).1.map (Value.int .u64)) ++ ([Value.slice none 0 0]))) (fun _ => by kernel_rfl) (fill_step ([]) ([Value.int .i64 0]) (((Vec.zero 4).1.map (Value.int .u64)) ++ ([Value.slice none 0 0])) ([Value.int .i64 6]) rfl (by simp) rfl rfl rfl rfl <| fill_step (([Value.int .i64 6]) ++ ((Vec.zero 4).1.map (Value.int .u64))) ([Value.slice none 0 0]) ([]) ([v22]) rfl (by simp) (cells_one ho11) (by simp [(Vec.zero 4).2]) rfl rfl <| fill_done))) rfl <| OW_alloc ti54 hs (zs := ([Value.int .i64 0]) ++ (((Vec.zero 4).1.map (Value.int .u64)) ++ ([Value.slice none 0 0]))) rfl rfl ?_
  intro b6 wv43 hs
  refine OW_storeAll ti54 hs (i := 0) rfl rfl (v := Value.agg (List.toArray (α := Value) (([Value.int .i64 6]) ++ (((Vec.zero 4).1.map (Value.int .u64)) ++ ([v22]))))) rfl (vs := ([Value.int .i64 6]) ++ (((Vec.zero 4).1.map (Value.int .u64)) ++ ([v22]))) rfl (one_append (one_cons rfl one_nil) (one_append vec_one (one_cons (by obtain ⟨_, _, h9⟩ := hs.rowShape (i := 1) rfl; rw [h9]; rfl) one_nil))) (by simp [(Vec.zero 4).2]) (by simp [(Vec.zero 4).2, (Vec.zero 4).2]) ?_
  intro wv44 hs
  refine OW_nil ?_
  obtain ⟨o4, hx3, hKhx3⟩ := stepS hM
  refine WP_cut (fun E w => ∃ (rv18 : Int) (xv3 : (List T_Regex)), o4 = .next (rv18, xv3) ∧ ∃ (gg18 : Hp) (v26 : Value) (xs16 : List Value), E 0 = Value.pointer (some ⟨b1, 0, none⟩) ∧ E 2 = Value.pointer (some ⟨b2, 0, none⟩) ∧ E 3 = Value.pointer (some ⟨b3, 0, none⟩) ∧ E.ds = [] ∧ Hle gg9 gg18 ∧ RowRel tT_Regex gg18 xs16 xv3 ∧ Go.Lx.Sep g0 w0 gg18 w (Go.Lx.box b1 65 ([encS rv1.2.s, Value.int .i64 p3]) :: .row v26 54 tT_Regex.sz xv3.length xs16 :: Go.Lx.box b3 54 (([Value.int .i64 rv18]) ++ (((Vec.zero 4).1.map (Value.int .u64)) ++ ([v26]))) :: Go.Lx.box b2 54 (([Value.int .i64 0]) ++ (((Vec.zero 4).1.map (Value.int .u64)) ++ ([Value.slice none 0 0]))) :: Lt)) ?_ ?_
  ·have hM := hx3
   refine WP_seq <| WP_region <| O (r_move (v := Value.pointer (some ⟨b1, 0, none⟩)) rfl) rfl ?_
   have hs : Go.Lx.Sep g0 w0 gg9 _ (Go.Lx.box b1 65 ([encS rv1.2.s, Value.int .i64 p3]) :: Go.Lx.box b6 54 (([Value.int .i64 6]) ++ (((Vec.zero 4).1.map (Value.int .u64)) ++ ([v22]))) :: .row v22 54 tT_Regex.sz [(T_Regex.mk rv8 rv9 rv10)].length xs13 :: Go.Lx.box b3 54 (([Value.int .i64 rv8]) ++ ((rv9.1.map (Value.int .u64)) ++ ([v12]))) :: Go.Lx.box b2 54 (([Value.int .i64 0]) ++ (((Vec.zero 4).1.map (Value.int .u64)) ++ ([Value.slice none 0 0]))) :: Lt) := (Sep.selT (A := [Go.Lx.box b6 54 (([Value.int .i64 6]) ++ (((Vec.zero 4).1.map (Value.int .u64)) ++ ([v22]))), .row v22 54 tT_Regex.sz [(T_Regex.mk rv8 rv9 rv10)].length xs13, Go.Lx.box b3 54 (([Value.int .i64 rv8]) ++ ((rv9.1.map (Value.int .u64)) ++ ([v12]))), Go.Lx.box b1 65 ([encS rv1.2.s, Value.int .i64 p3]), Go.Lx.box b2 54 (([Value.int .i64 0]) ++ (((Vec.zero 4).1.map (Value.int .u64)) ++ ([Value.slice none 0 0])))]) (A' := [Go.Lx.box b1 65 ([encS rv1.2.s, Value.int .i64 p3]), Go.Lx.box b6 54 (([Value.int .i64 6]) ++ (((Vec.zero 4).1.map (Value.int .u64)) ++ ([v22]))), .row v22 54 tT_Regex.sz [(T_Regex.mk rv8 rv9 rv10)].length xs13, Go.Lx.box b3 54 (([Value.int .i64 rv8]) ++ ((rv9.1.map (Value.int .u64)) ++ ([v12]))), Go.Lx.box b2 54 (([Value.int .i64 0]) ++ (((Vec.zero 4).1.map (Value.int .u64)) ++ ([Value.slice none 0 0])))]) (L := Lt) hs [3, 0, 1, 2, 4] (by decide) rfl)
   obtain ⟨rv19, hrv19, hM⟩ := bindS hM
   refine C [Value.pointer (some ⟨b1, 0, none⟩)] cf29 rfl (regex_reader_peek_ok hrv19 hs) rfl ?_
   rintro v27 wv52 ⟨gg19, hvv27, hlegg19, hs⟩
   replace hRv12 := hRv12.mono hlegg19
   replace hrelxs13 := hrelxs13.mono hlegg19
   replace hagi := hagi.trans hlegg19
   replace hagg9 := hagg9.trans hlegg19
   obtain ⟨cs10, rfl, hcs10⟩ := hvv27
   have hcs10 : cs10 = _ := hcs10; subst hcs10
   refine OW_nil <| WP_block <| WP_seq <| WP_region <| O (r_eql rfl rfl) rfl <| O (r_assign (v := Value.bool (rv19 == 42)) rfl) rfl <| OW_nil ?_
   rcases condS hM with ⟨hc16, hM⟩ | ⟨hc16, hM⟩
   ·refine WP_true rfl hc16 <| WP_region <| O (r_loadN (cs := ([Value.int .i64 6]) ++ (((Vec.zero 4).1.map (Value.int .u64)) ++ ([v22]))) ti54 rfl (by simp [(Vec.zero 4).2]) (hs.cells (i := 1) rfl)) rfl <| OW_storeAll ti54 hs (i := 3) rfl rfl (v := Value.agg (List.toArray (α := Value) (([Value.int .i64 6]) ++ (((Vec.zero 4).1.map (Value.int .u64)) ++ ([v22]))))) rfl (vs := ([Value.int .i64 6]) ++ (((Vec.zero 4).1.map (Value.int .u64)) ++ ([v22]))) rfl (one_append (one_cons rfl one_nil) (one_append vec_one (one_cons (by obtain ⟨_, _, h9⟩ := hs.rowShape (i := 2) rfl; rw [h9]; rfl) one_nil))) (by simp [(Vec.zero 4).2]) (by simp [(Vec.zero 4).2, rv9.2]) ?_
    intro wv53 hs
    refine OW_nil ?_
    obtain rfl := Option.some.inj hM
    exact ⟨(6 : Int), ([(T_Regex.mk rv8 rv9 rv10)] : (List T_Regex)), rfl, gg19, v22, xs13, rfl, rfl, rfl, hds, hagg9, hrelxs13, (Sep.selT (A := [Go.Lx.box b1 65 ([encS rv1.2.s, Value.int .i64 p3]), Go.Lx.box b6 54 (([Value.int .i64 6]) ++ (((Vec.zero 4).1.map (Value.int .u64)) ++ ([v22]))), .row v22 54 tT_Regex.sz [(T_Regex.mk rv8 rv9 rv10)].length xs13, Go.Lx.box b3 54 (([Value.int .i64 6]) ++ (((Vec.zero 4).1.map (Value.int .u64)) ++ ([v22]))), Go.Lx.box b2 54 (([Value.int .i64 0]) ++ (((Vec.zero 4).1.map (Value.int .u64)) ++ ([Value.slice none 0 0])))]) (A' := [Go.Lx.box b1 65 ([encS rv1.2.s, Value.int .i64 p3]), .row v22 54 tT_Regex.sz [(T_Regex.mk rv8 rv9 rv10)].length xs13, Go.Lx.box b3 54 (([Value.int .i64 6]) ++ (((Vec.zero 4).1.map (Value.int .u64)) ++ ([v22]))), Go.Lx.box b2 54 (([Value.int .i64 0]) ++ (((Vec.zero 4).1.map (Value.int .u64)) ++ ([Value.slice none 0 0])))]) (L := Lt) hs [0, 2, 3, 4] (by decide) rfl)⟩
   ·refine WP_false rfl hc16 <| WP_seq <| WP_region <| O (r_eql rfl rfl) rfl <| O (r_assign (v := Value.bool (rv19 == 43)) rfl) rfl <| OW_nil ?_
    rcases condS hM with ⟨hc17, hM⟩ | ⟨hc17, hM⟩
    ·refine WP_true rfl hc17 <| WP_region <| O (r_loadN (cs := ([Value.int .i64 rv8]) ++ ((rv9.1.map (Value.int .u64)) ++ ([v12]))) ti54 rfl (by simp [rv9.2]) (hs.cells (i := 3) rfl)) rfl <| O (r_loadN (cs := ([Value.int .i64 6]) ++ (((Vec.zero 4).1.map (Value.int .u64)) ++ ([v22]))) ti54 rfl (by simp [(Vec.zero 4).2]) (hs.cells (i := 1) rfl)) rfl ?_
     obtain ⟨gg20, hlegg20, hRgg20, hs⟩ := hs.relRow (i := 2) rfl hrelxs13
     replace hRv12 := hRv12.mono hlegg20
     replace hagg9 := hagg9.trans hlegg20
     refine OW_lit (τ := tT_Regex) [Value.agg (List.toArray (α := Value) (([Value.int .i64 rv8]) ++ ((rv9.1.map (Value.int .u64)) ++ ([v12])))), Value.agg (List.toArray (α := Value) (([Value.int .i64 6]) ++ (((Vec.zero 4).1.map (Value.int .u64)) ++ ([v22]))))] [(T_Regex.mk rv8 rv9 rv10), (T_Regex.mk 6 (Vec.zero 4) [(T_Regex.mk rv8 rv9 rv10)])] Try.underlying52 ti54 (by decide) hs rfl rfl rfl ⟨(tT_Regex_iff.2 ⟨[Value.int .i64 rv8], rv9.1.map (Value.int .u64), [v12], rfl, rfl, rfl, ⟨_, rfl, hRv12⟩⟩), (tT_Regex_iff.2 ⟨[Value.int .i64 6], (Vec.zero 4).1.map (Value.int .u64), [v22], rfl, rfl, rfl, ⟨_, rfl, hRgg20⟩⟩), trivial⟩ rfl ?_
     intro v28 wv54 xs17 hrelxs17 hs
     have ho14 := one_of_shape (hs.rowShape (i := 0) rfl)
     refine O (r_build (vs := [(0, Value.int .i64 4), (2, v28)]) (cs := ([Value.int .i64 4]) ++ (((Vec.zero 4).1.map (Value.int .u64)) ++ ([v28]))) rfl (built_fill [(0, 1), (1, 4), (5, 1)] (([Value.int .i64 0]) ++ (((Vec.zero 4).1.map (Value.int .u64)) ++ ([Value.slice none 0 0]))) (fun _ => by kernel_rfl) (fill_step ([]) ([Value.int .i64 0]) (((Vec.zero 4).1.map (Value.int .u64)) ++ ([Value.slice none 0 0])) ([Value.int .i64 4]) rfl (by simp) rfl rfl rfl rfl <| fill_step (([Value.int .i64 4]) ++ ((Vec.zero 4).1.map (Value.int .u64))) ([Value.slice none 0 0]) ([]) ([v28]) rfl (by simp) (cells_one ho14) (by simp [(Vec.zero 4).2]) rfl rfl <| fill_done))) rfl <| OW_storeAll ti54 hs (i := 3) rfl rfl (v := Value.agg (List.toArray (α := Value) (([Value.int .i64 4]) ++ (((Vec.zero 4).1.map (Value.int .u64)) ++ ([v28]))))) rfl (vs := ([Value.int .i64 4]) ++ (((Vec.zero 4).1.map (Value.int .u64)) ++ ([v28]))) rfl (one_append (one_cons rfl one_nil) (one_append vec_one (one_cons (by obtain ⟨_, _, h9⟩ := hs.rowShape (i := 0) rfl; rw [h9]; rfl) one_nil))) (by simp [(Vec.zero 4).2]) (by simp [(Vec.zero 4).2, rv9.2]) ?_
     intro wv55 hs
     refine OW_nil ?_
     obtain rfl := Option.some.inj hM
     exact ⟨(4 : Int), ([(T_Regex.mk rv8 rv9 rv10), (T_Regex.mk 6 (Vec.zero 4) [(T_Regex.mk rv8 rv9 rv10)])] : (List T_Regex)), rfl, gg20, v28, xs17, rfl, rfl, rfl, hds, hagg9, hrelxs17, (Sep.selT (A := [.row v28 54 tT_Regex.sz [(T_Regex.mk rv8 rv9 rv10), (T_Regex.mk 6 (Vec.zero 4) [(T_Regex.mk rv8 rv9 rv10)])].length xs17, Go.Lx.box b1 65 ([encS rv1.2.s, Value.int .i64 p3]), Go.Lx.box b6 54 (([Value.int .i64 6]) ++ (((Vec.zero 4).1.map (Value.int .u64)) ++ ([v22]))), Go.Lx.box b3 54 (([Value.int .i64 4]) ++ (((Vec.zero 4).1.map (Value.int .u64)) ++ ([v28]))), Go.Lx.box b2 54 (([Value.int .i64 0]) ++ (((Vec.zero 4).1.map (Value.int .u64)) ++ ([Value.slice none 0 0])))]) (A' := [Go.Lx.box b1 65 ([encS rv1.2.s, Value.int .i64 p3]), .row v28 54 tT_Regex.sz [(T_Regex.mk rv8 rv9 rv10), (T_Regex.mk 6 (Vec.zero 4) [(T_Regex.mk rv8 rv9 rv10)])].length xs17, Go.Lx.box b3 54 (([Value.int .i64 4]) ++ (((Vec.zero 4).1.map (Value.int .u64)) ++ ([v28]))), Go.Lx.box b2 54 (([Value.int .i64 0]) ++ (((Vec.zero 4).1.map (Value.int .u64)) ++ ([Value.slice none 0 0])))]) (L := Lt) hs [1, 0, 3, 4] (by decide) rfl)⟩
    ·refine WP_false rfl hc17 <| WP_seq <| WP_region <| O (r_eql rfl rfl) rfl <| O (r_assign (v := Value.bool (rv19 == 63)) rfl) rfl <| OW_nil ?_
     rcases condS hM with ⟨hc18, hM⟩ | ⟨hc18, hM⟩
     ·refine WP_true rfl hc18 <| WP_region <| O (r_loadN (cs := ([Value.int .i64 rv8]) ++ ((rv9.1.map (Value.int .u64)) ++ ([v12]))) ti54 rfl (by simp [rv9.2]) (hs.cells (i := 3) rfl)) rfl <| O (r_build (vs := [(0, Value.int .i64 2)]) (cs := ([Value.int .i64 2]) ++ (((Vec.zero 4).1.map (Value.int .u64)) ++ ([Value.slice none 0 0]))) rfl (built_fill [(0, 1), (1, 4), (5, 1)] (([Value.int .i64 0]) ++ (((Vec.zero 4).1.map (Value.int .u64)) ++ ([Value.slice none 0 0]))) (fun _ => by kernel_rfl) (fill_step ([]) ([Value.int .i64 0]) (((Vec.zero 4).1.map (Value.int .u64)) ++ ([Value.slice none 0 0])) ([Value.int .i64 2]) rfl (by simp) rfl rfl rfl rfl <| fill_done))) rfl <| OW_lit (τ := tT_Regex) [Value.agg (List.toArray (α := Value) (([Value.int .i64 rv8]) ++ ((rv9.1.map (Value.int .u64)) ++ ([v12])))), Value.agg (List.toArray (α := Value) (([Value.int .i64 2]) ++ (((Vec.zero 4).1.map (Value.int .u64)) ++ ([Value.slice none 0 0]))))] [(T_Regex.mk rv8 rv9 rv10), (T_Regex.mk 2 (Vec.zero 4) [])] Try.underlying52 ti54 (by decide) hs rfl rfl rfl ⟨(tT_Regex_iff.2 ⟨[Value.int .i64 rv8], rv9.1.map (Value.int .u64), [v12], rfl, rfl, rfl, ⟨_, rfl, hRv12⟩⟩), (tT_Regex_iff.2 ⟨[Value.int .i64 2], (Vec.zero 4).1.map (Value.int .u64), [Value.slice none 0 0], rfl, rfl, rfl, ⟨_, rfl, RdS.nil⟩⟩), trivial⟩ rfl ?_
      intro v29 wv56 xs18 hrelxs18 hs
      have ho15 := one_of_shape (hs.rowShape (i := 0) rfl)
      refine O (r_build (vs := [(0, Value.int .i64 5), (2, v29)]) (cs := ([Value.int .i64 5]) ++ (((Vec.zero 4).1.map (Value.int .u64)) ++ ([v29]))) rfl (built_fill [(0, 1), (1, 4), (5, 1)] (([Value.int .i64 0]) ++ (((Vec.zero 4).1.map (Value.int .u64)) ++ ([Value.slice none 0 0]))) (fun _ => by kernel_rfl) (fill_step ([]) ([Value.int .i64 0]) (((Vec.zero 4).1.map (Value.int .u64)) ++ ([Value.slice none 0 0])) ([Value.int .i64 5]) rfl (by simp) rfl rfl rfl rfl <| fill_step (([Value.int .i64 5]) ++ ((Vec.zero 4).1.map (Value.int .u64))) ([Value.slice none 0 0]) ([]) ([v29]) rfl (by simp) (cells_one ho15) (by simp [(Vec.zero 4).2]) rfl rfl <| fill_done))) rfl <| OW_storeAll ti54 hs (i := 4) rfl rfl (v := Value.agg (List.toArray (α := Value) (([Value.int .i64 5]) ++ (((Vec.zero 4).1.map (Value.int .u64)) ++ ([v29]))))) rfl (vs := ([Value.int .i64 5]) ++ (((Vec.zero 4).1.map (Value.int .u64)) ++ ([v29]))) rfl (one_append (one_cons rfl one_nil) (one_append vec_one (one_cons (by obtain ⟨_, _, h9⟩ := hs.rowShape (i := 0) rfl; rw [h9]; rfl) one_nil))) (by simp [(Vec.zero 4).2]) (by simp [(Vec.zero 4).2, rv9.2]) ?_
      intro wv57 hs
      refine OW_nil ?_
      obtain rfl := Option.some.inj hM
      exact ⟨(5 : Int), ([(T_Regex.mk rv8 rv9 rv10), (T_Regex.mk 2 (Vec.zero 4) [])] : (List T_Regex)), rfl, gg19, v29, xs18, rfl, rfl, rfl, hds, hagg9, hrelxs18, (Sep.selT (A := [.row v29 54 tT_Regex.sz [(T_Regex.mk rv8 rv9 rv10), (T_Regex.mk 2 (Vec.zero 4) [])].length xs18, Go.Lx.box b1 65 ([encS rv1.2.s, Value.int .i64 p3]), Go.Lx.box b6 54 (([Value.int .i64 6]) ++ (((Vec.zero 4).1.map (Value.int .u64)) ++ ([v22]))), .row v22 54 tT_Regex.sz [(T_Regex.mk rv8 rv9 rv10)].length xs13, Go.Lx.box b3 54 (([Value.int .i64 5]) ++ (((Vec.zero 4).1.map (Value.int .u64)) ++ ([v29]))), Go.Lx.box b2 54 (([Value.int .i64 0]) ++ (((Vec.zero 4).1.map (Value.int .u64)) ++ ([Value.slice none 0 0])))]) (A' := [Go.Lx.box b1 65 ([encS rv1.2.s, Value.int .i64 p3]), .row v29 54 tT_Regex.sz [(T_Regex.mk rv8 rv9 rv10), (T_Regex.mk 2 (Vec.zero 4) [])].length xs18, Go.Lx.box b3 54 (([Value.int .i64 5]) ++ (((Vec.zero 4).1.map (Value.int .u64)) ++ ([v29]))), Go.Lx.box b2 54 (([Value.int .i64 0]) ++ (((Vec.zero 4).1.map (Value.int .u64)) ++ ([Value.slice none 0 0])))]) (L := Lt) hs [1, 0, 4, 5] (by decide) rfl)⟩
     ·refine WP_false rfl hc18 <| WP_seq <| WP_region <| O (r_loadN (cs := ([Value.int .i64 rv8]) ++ ((rv9.1.map (Value.int .u64)) ++ ([v12]))) ti54 rfl (by simp [rv9.2]) (hs.cells (i := 3) rfl)) rfl <| OW_storeAll ti54 hs (i := 4) rfl rfl (v := Value.agg (List.toArray (α := Value) (([Value.int .i64 rv8]) ++ ((rv9.1.map (Value.int .u64)) ++ ([v12]))))) rfl (vs := ([Value.int .i64 rv8]) ++ ((rv9.1.map (Value.int .u64)) ++ ([v12]))) rfl (one_append (one_cons rfl one_nil) (one_append vec_one (one_cons (by obtain ⟨_, _, h9⟩ := hRv12.shape; rw [h9]; rfl) one_nil))) (by simp [rv9.2]) (by simp [rv9.2, (Vec.zero 4).2]) ?_
      intro wv58 hs
      refine OW_nil <| WP_ret ?_
      obtain rfl := Option.some.inj hM
      have hM := hKhx3
      obtain rfl := Option.some.inj hM
      refine fun hr => ?_
      have hM := congrArg some hr
      obtain rfl := Option.some.inj hM
      refine FL_nil hds ?_
      exact ⟨_, res1 Try.results36 (rv_cells (vs := ([Value.int .i64 rv8]) ++ ((rv9.1.map (Value.int .u64)) ++ ([v12]))) ti54 rfl (by simp [rv9.2]) (hs.cells (i := 4) rfl)), gg19, ⟨([Value.int .i64 rv8]) ++ ((rv9.1.map (Value.int .u64)) ++ ([v12])), rfl, (tT_Regex_iff.2 ⟨[Value.int .i64 rv8], rv9.1.map (Value.int .u64), [v12], rfl, rfl, rfl, ⟨_, rfl, hRv12⟩⟩)⟩, hagi, (Sep.selT (A := [Go.Lx.box b1 65 ([encS rv1.2.s, Value.int .i64 p3]), Go.Lx.box b6 54 (([Value.int .i64 6]) ++ (((Vec.zero 4).1.map (Value.int .u64)) ++ ([v22]))), .row v22 54 tT_Regex.sz [(T_Regex.mk rv8 rv9 rv10)].length xs13, Go.Lx.box b3 54 (([Value.int .i64 rv8]) ++ ((rv9.1.map (Value.int .u64)) ++ ([v12]))), Go.Lx.box b2 54 (([Value.int .i64 rv8]) ++ ((rv9.1.map (Value.int .u64)) ++ ([v12])))]) (A' := [Go.Lx.box b1 65 ([encS rv1.2.s, Value.int .i64 p3])]) (L := Lt) hs [0] (by decide) rfl)⟩
  ·clear hs
   rintro E w ⟨rv18, xv3, rfl, gg18, v26, xs16, hE0, hE2, hE3, hds, hlegg18, hrelxs16, hs⟩
   have hM := hKhx3
   dsimp only [onStep] at hM
   obtain ⟨E, rfl⟩ := open3 (E := E) hE0 hE2 hE3
   replace hlegg9 := hlegg9.trans hlegg18
   refine WP_region <| O (r_move (v := Value.pointer (some ⟨b1, 0, none⟩)) rfl) rfl <| O (r_nilCheck rfl) rfl <| O (r_fieldAddr Try.underlying65 ti3 rfl rfl (by decide) rfl rfl) rfl <| O (r_load (v := Value.int .i64 p3) ti3 rfl (hs.cell (i := 0) (o := 1) rfl rfl)) rfl ?_
   obtain ⟨t3, ht3, hM⟩ := bindS hM
   refine O (r_addM rfl rfl ht3) rfl <| O (r_nilCheck rfl) rfl <| O (r_fieldAddr Try.underlying65 ti3 rfl rfl (by decide) rfl rfl) rfl <| OW_store1 ti3 hs (i := 0) rfl rfl (v := Value.int .i64 t3) rfl rfl (o := 1) (by simp) ?_
   intro wv59 hs
   refine OW_nil ?_
   obtain rfl := Option.some.inj hM
   obtain ⟨gg21, hlegg21, hRgg21, hs⟩ := hs.relRow (i := 1) rfl hrelxs16
   replace hlegg9 := hlegg9.trans hlegg21
   exact ⟨gg21, v26, rfl, rfl, rfl, hds, hlegg9, hRgg21, (Sep.selT (A := [Go.Lx.box b1 65 ([encS rv1.2.s, Value.int .i64 t3]), Go.Lx.box b3 54 (([Value.int .i64 rv18]) ++ (((Vec.zero 4).1.map (Value.int .u64)) ++ ([v26]))), Go.Lx.box b2 54 (([Value.int .i64 0]) ++ (((Vec.zero 4).1.map (Value.int .u64)) ++ ([Value.slice none 0 0])))]) (A' := [Go.Lx.box b3 54 (([Value.int .i64 rv18]) ++ (((Vec.zero 4).1.map (Value.int .u64)) ++ ([v26]))), Go.Lx.box b1 65 ([encS rv1.2.s, Value.int .i64 t3]), Go.Lx.box b2 54 (([Value.int .i64 0]) ++ (((Vec.zero 4).1.map (Value.int .u64)) ++ ([Value.slice none 0 0])))]) (L := Lt) hs [1, 0, 2] (by decide) rfl)⟩
 ·refine CN [Value.pointer (some ⟨b1, 0, none⟩)] cf42 rfl (ih_regex_reader_atom hpx1 hs) ?_
  rintro wv2 ⟨gg1, hlegg1, hs⟩
  replace hagi := hagi.trans hlegg1
  obtain rfl := Option.some.inj hM
  exact ⟨rfl, hds, gg1, hagi, Sep.tail (A := [Go.Lx.box b2 54 (([Value.int .i64 0]) ++ (((Vec.zero 4).1.map (Value.int .u64)) ++ ([Value.slice none 0 0])))]) (L := Lt) hs⟩

set_option maxRecDepth 100000 in
theorem regex_reader_branch_step {fl : Nat} (ih_regex_reader_repeat : C.regex_reader_repeat fl) : C.regex_reader_branch (fl + 1) := by
 intro p1 r hM g0 w0 gi wi Lt b1 hs
 unfold M.regex_reader_branch at hM
 have hagi := Hle.refl gi
 refine calls_of_WPX (args := [Value.pointer (some ⟨b1, 0, none⟩)]) Try.func28 rfl Try.ntmps28 rfl ?_
 have hds : (argEnv [Value.pointer (some ⟨b1, 0, none⟩)]).ds = [] := rfl
 refine WP_seq <| WP_region <| OW_alloc ti54 hs (zs := ([Value.int .i64 0]) ++ (((Vec.zero 4).1.map (Value.int .u64)) ++ ([Value.slice none 0 0]))) rfl rfl ?_
 intro b2 wv1 hs
 refine OW_nil <| WP_seq <| WP_region <| O (r_assign (v := Value.slice none 0 0) rfl) rfl <| OW_nil ?_
 obtain ⟨o3, hx4, hKhx4⟩ := stepS hM
 refine WP_cut (fun E w => ∃ (xv7 : (List T_Regex)) (l3 : Str) (l4 : Int), o3 = .next (xv7, l3, l4) ∧ ∃ (gg10 : Hp) (v16 : Value) (xs11 : List Value), E 2 = Value.pointer (some ⟨b2, 0, none⟩) ∧ E 3 = v16 ∧ E.ds = [] ∧ Hle gi gg10 ∧ RowRel tT_Regex gg10 xs11 xv7 ∧ Go.Lx.Sep g0 w0 gg10 w (.row v16 54 tT_Regex.sz xv7.length xs11 :: Go.Lx.box b2 54 (([Value.int .i64 0]) ++ (((Vec.zero 4).1.map (Value.int .u64)) ++ ([Value.slice none 0 0]))) :: Go.Lx.box b1 65 ([encS l3, Value.int .i64 l4]) :: Lt)) ?_ ?_
 ·have hM := hx4
  refine WP_block ?_
  have hs := hs.nilRow 54 tT_Regex.sz
  refine WP_loop (fun (st9 : Str × Int × (List T_Regex)) E w => match st9 with | (p10, p11, xv10) => ∃ (gg14 : Hp) (v22 : Value) (xs16 : List Value), E 0 = Value.pointer (some ⟨b1, 0, none⟩) ∧ E 2 = Value.pointer (some ⟨b2, 0, none⟩) ∧ E 3 = v22 ∧ E.ds = [] ∧ Hle gi gg14 ∧ RowRel tT_Regex gg14 xs16 xv10 ∧ Go.Lx.Sep g0 w0 gg14 w (.row v22 54 tT_Regex.sz xv10.length xs16 :: Go.Lx.box b2 54 (([Value.int .i64 0]) ++ (((Vec.zero 4).1.map (Value.int .u64)) ++ ([Value.slice none 0 0]))) :: Go.Lx.box b1 65 ([encS p10, Value.int .i64 p11]) :: Lt)) hM ⟨gi, (Value.slice none 0 0), [], rfl, rfl, rfl, hds, (Hle.refl _), RowRel.nil, hs⟩ ?_
  clear hs hM
  rintro ⟨p10, p11, xv10⟩ o2 E w hM ⟨gg14, v22, xs16, hE0, hE2, hE3, hds, hlegg14, hrelxs16, hs⟩
  obtain ⟨E, rfl⟩ := open3 (E := E) hE0 hE2 hE3
  have hagg14 := Hle.refl gg14
  refine WP_seq ?_
  obtain ⟨xv13, hx7, hKhx7⟩ := bindS hM
  refine WP_cut (fun E w => E 0 = Value.pointer (some ⟨b1, 0, none⟩) ∧ E 2 = Value.pointer (some ⟨b2, 0, none⟩) ∧ E 3 = v22 ∧ E 37 = Value.bool xv13 ∧ E.ds = [] ∧ Go.Lx.Sep g0 w0 gg14 w (.row v22 54 tT_Regex.sz xv10.length xs16 :: Go.Lx.box b2 54 (([Value.int .i64 0]) ++ (((Vec.zero 4).1.map (Value.int .u64)) ++ ([Value.slice none 0 0]))) :: Go.Lx.box b1 65 ([encS p10, Value.int .i64 p11]) :: Lt)) ?_ ?_
  ·have hM := hx7
   refine WP_draw mo (by decide +kernel) ?_
   have hs := hs.drew
   refine S (r_move (v := Value.pointer (some ⟨b1, 0, none⟩)) rfl) rfl <| S (r_nilCheck rfl) rfl <| S (r_fieldAddr Try.underlying65 ti3 rfl rfl (by decide) rfl rfl) rfl <| S (r_load (v := Value.int .i64 p11) ti3 rfl (hs.cell (i := 2) (o := 1) rfl rfl)) rfl <| S (r_move (v := Value.pointer (some ⟨b1, 0, none⟩)) rfl) rfl <| S (r_nilCheck rfl) rfl <| S (r_fieldAddr Try.underlying65 ti9 rfl rfl (by decide) rfl rfl) rfl <| S (r_load (v := encS p10) ti9 rfl (hs.cell (i := 2) (o := 0) rfl rfl)) rfl <| S (r_lenStr Try.underlying9 rfl) rfl <| S (r_lss rfl rfl) rfl <| S (r_move (v := Value.bool (decide (p11 < (p10.length : Int)))) rfl) rfl ?_
   rcases condS hM with ⟨hg23, hM⟩ | ⟨hg23, hM⟩
   ·refine SG rfl rfl rfl (by rw [hg23]; rfl) (r_move (v := Value.pointer (some ⟨b1, 0, none⟩)) rfl) rfl <| SG rfl rfl rfl (by rw [hg23]; rfl) (r_nilCheck rfl) rfl <| SG rfl rfl rfl (by rw [hg23]; rfl) (r_fieldAddr Try.underlying65 ti9 rfl rfl (by decide) rfl rfl) rfl <| SG rfl rfl rfl (by rw [hg23]; rfl) (r_load (v := encS p10) ti9 rfl (hs.cell (i := 2) (o := 0) rfl rfl)) rfl <| SG rfl rfl rfl (by rw [hg23]; rfl) (r_move (v := Value.pointer (some ⟨b1, 0, none⟩)) rfl) rfl <| SG rfl rfl rfl (by rw [hg23]; rfl) (r_nilCheck rfl) rfl <| SG rfl rfl rfl (by rw [hg23]; rfl) (r_fieldAddr Try.underlying65 ti3 rfl rfl (by decide) rfl rfl) rfl <| SG rfl rfl rfl (by rw [hg23]; rfl) (r_load (v := Value.int .i64 p11) ti3 rfl (hs.cell (i := 2) (o := 1) rfl rfl)) rfl ?_
    obtain ⟨c12, hc12, hM⟩ := bindS hM
    refine SG rfl rfl rfl (by rw [hg23]; rfl) (r_idxStr Try.underlying9 rfl rfl hc12) rfl <| SG rfl rfl rfl (by rw [hg23]; rfl) (r_neq rfl rfl) rfl <| S (r_pickT (v := Value.bool (c12 != 124)) rfl hg23 rfl) rfl <| S (r_move (v := Value.bool (c12 != 124)) rfl) rfl ?_
    rcases condS hM with ⟨hg24, hM⟩ | ⟨hg24, hM⟩
    ·refine SG rfl rfl rfl (by rw [hg24]; rfl) (r_move (v := Value.pointer (some ⟨b1, 0, none⟩)) rfl) rfl <| SG rfl rfl rfl (by rw [hg24]; rfl) (r_nilCheck rfl) rfl <| SG rfl rfl rfl (by rw [hg24]; rfl) (r_fieldAddr Try.underlying65 ti9 rfl rfl (by decide) rfl rfl) rfl <| SG rfl rfl rfl (by rw [hg24]; rfl) (r_load (v := encS p10) ti9 rfl (hs.cell (i := 2) (o := 0) rfl rfl)) rfl <| SG rfl rfl rfl (by rw [hg24]; rfl) (r_move (v := Value.pointer (some ⟨b1, 0, none⟩)) rfl) rfl <| SG rfl rfl rfl (by rw [hg24]; rfl) (r_nilCheck rfl) rfl <| SG rfl rfl rfl (by rw [hg24]; rfl) (r_fieldAddr Try.underlying65 ti3 rfl rfl (by decide) rfl rfl) rfl <| SG rfl rfl rfl (by rw [hg24]; rfl) (r_load (v := Value.int .i64 p11) ti3 rfl (hs.cell (i := 2) (o := 1) rfl rfl)) rfl ?_
     refine SG rfl rfl rfl (by rw [hg24]; rfl) (r_idxStr Try.underlying9 rfl rfl hc12) rfl <| SG rfl rfl rfl (by rw [hg24]; rfl) (r_neq rfl rfl) rfl <| S (r_pickT (v := Value.bool (c12 != 41)) rfl hg24 rfl) rfl <| SW_nil ?_
     obtain rfl := Option.some.inj hM
     exact ⟨rfl, rfl, rfl, rfl, hds, hs⟩
    ·refine SK rfl rfl rfl (by rw [hg24]; rfl) rfl <| SK rfl rfl rfl (by rw [hg24]; rfl) rfl <| SK rfl rfl rfl (by rw [hg24]; rfl) rfl <| SK rfl rfl rfl (by rw [hg24]; rfl) rfl <| SK rfl rfl rfl (by rw [hg24]; rfl) rfl <| SK rfl rfl rfl (by rw [hg24]; rfl) rfl <| SK rfl rfl rfl (by rw [hg24]; rfl) rfl <| SK rfl rfl rfl (by rw [hg24]; rfl) rfl <| SK rfl rfl rfl (by rw [hg24]; rfl) rfl <| SK rfl rfl rfl (by rw [hg24]; rfl) rfl <| S (r_pickF (v := Value.bool false) rfl hg24 rfl) rfl <| SW_nil ?_
     obtain rfl := Option.some.inj hM
     exact ⟨rfl, rfl, rfl, rfl, hds, hs⟩
   ·refine SK rfl rfl rfl (by rw [hg23]; rfl) rfl <| SK rfl rfl rfl (by rw [hg23]; rfl) rfl <| SK rfl rfl rfl (by rw [hg23]; rfl) rfl <| SK rfl rfl rfl (by rw [hg23]; rfl) rfl <| SK rfl rfl rfl (by rw [hg23]; rfl) rfl <| SK rfl rfl rfl (by rw [hg23]; rfl) rfl <| SK rfl rfl rfl (by rw [hg23]; rfl) rfl <| SK rfl rfl rfl (by rw [hg23]; rfl) rfl <| SK rfl rfl rfl (by rw [hg23]; rfl) rfl <| SK rfl rfl rfl (by rw [hg23]; rfl) rfl <| S (r_pickF (v := Value.bool false) rfl hg23 rfl) rfl <| S (r_move (v := Value.bool false) rfl) rfl <| SK rfl rfl rfl rfl rfl <| SK rfl rfl rfl rfl rfl <| SK rfl rfl rfl rfl rfl <| SK rfl rfl rfl rfl rfl <| SK rfl rfl rfl rfl rfl <| SK rfl rfl rfl rfl rfl <| SK rfl rfl rfl rfl rfl ?_
    refine SK rfl rfl rfl rfl rfl <| SK rfl rfl rfl rfl rfl <| SK rfl rfl rfl rfl rfl <| S (r_pickF (v := Value.bool false) rfl rfl rfl) rfl <| SW_nil ?_
    obtain rfl := Option.some.inj hM
    exact ⟨rfl, rfl, rfl, rfl, hds, hs⟩
  ·clear hs
   rintro E w ⟨hE0, hE2, hE3, hE37, hds, hs⟩
   have hM := hKhx7
   obtain ⟨E, rfl⟩ := open4 (E := E) hE0 hE2 hE3 hE37
   rcases condS hM with ⟨hc6, hM⟩ | ⟨hc6, hM⟩
   ·refine WP_true rfl hc6 <| WP_skip <| WP_block <| WP_region <| O (r_move (v := v22) rfl) rfl <| O (r_move (v := Value.pointer (some ⟨b1, 0, none⟩)) rfl) rfl ?_
    have hs : Go.Lx.Sep g0 w0 gg14 _ (Go.Lx.box b1 65 ([encS p10, Value.int .i64 p11]) :: .row v22 54 tT_Regex.sz xv10.length xs16 :: Go.Lx.box b2 54 (([Value.int .i64 0]) ++ (((Vec.zero 4).1.map (Value.int .u64)) ++ ([Value.slice none 0 0]))) :: Lt) := (Sep.selT (A := [.row v22 54 tT_Regex.sz xv10.length xs16, Go.Lx.box b2 54 (([Value.int .i64 0]) ++ (((Vec.zero 4).1.map (Value.int .u64)) ++ ([Value.slice none 0 0]))), Go.Lx.box b1 65 ([encS p10, Value.int .i64 p11])]) (A' := [Go.Lx.box b1 65 ([encS p10, Value.int .i64 p11]), .row v22 54 tT_Regex.sz xv10.length xs16, Go.Lx.box b2 54 (([Value.int .i64 0]) ++ (((Vec.zero 4).1.map (Value.int .u64)) ++ ([Value.slice none 0 0])))]) (L := Lt) hs [2, 0, 1] (by decide) rfl)
    rcases rtS hM with ⟨rv6, hrv6, hM⟩ | ⟨px6, hpx6, hM⟩
    ·refine C [Value.pointer (some ⟨b1, 0, none⟩)] cf36 rfl (ih_regex_reader_repeat hrv6 hs) rfl ?_
     rintro v28 wv23 ⟨gg19, hvv28, hlegg19, hs⟩
     replace hrelxs16 := hrelxs16.mono hlegg19
     replace hlegg14 := hlegg14.trans hlegg19
     obtain ⟨cs21, rfl, hcs21⟩ := hvv28
     obtain ⟨cs22, cs23, cs24, rfl, hcs22, hcs23, hcs24⟩ := tT_Regex_iff.1 hcs21
     have hcs22 : cs22 = _ := hcs22; subst hcs22
     have hcs23 : cs23 = _ := hcs23; subst hcs23
     obtain ⟨v29, rfl, hRv29⟩ := hcs24
     refine OW_lit (τ := tT_Regex) [Value.agg (List.toArray (α := Value) (([Value.int .i64 rv6.1.Kind]) ++ ((rv6.1.Set.1.map (Value.int .u64)) ++ ([v29]))))] [rv6.1] Try.underlying52 ti54 (by decide) hs rfl rfl rfl ⟨(tT_Regex_iff.2 ⟨[Value.int .i64 rv6.1.Kind], rv6.1.Set.1.map (Value.int .u64), [v29], rfl, rfl, rfl, ⟨_, rfl, hRv29⟩⟩), trivial⟩ rfl ?_
     intro v30 wv24 xs20 hrelxs20 hs
     obtain ⟨l6, hl6, hM⟩ := bindS hM
     refine OW_append Try.underlying52 ti54 rfl (by decide) (by decide) hs (i := 2) rfl hrelxs16 (v := v22) rfl (u := v30) rfl (hs.rowSrc (i := 0) rfl) hrelxs20 hl6 rfl ?_
     intro v31 wv25 xs21 hrelxs21 hs
     refine O (r_assign (v := v31) rfl) rfl <| OW_nil ?_
     obtain rfl := Option.some.inj hM
     exact ⟨gg19, v31, xs21, rfl, rfl, rfl, hds, hlegg14, hrelxs21, (Sep.selT (A := [.row v30 54 tT_Regex.sz [rv6.1].length xs20, Go.Lx.box b1 65 ([encS rv6.2.s, Value.int .i64 rv6.2.atv]), .row v31 54 tT_Regex.sz l6.length xs21, Go.Lx.box b2 54 (([Value.int .i64 0]) ++ (((Vec.zero 4).1.map (Value.int .u64)) ++ ([Value.slice none 0 0])))]) (A' := [.row v31 54 tT_Regex.sz l6.length xs21, Go.Lx.box b2 54 (([Value.int .i64 0]) ++ (((Vec.zero 4).1.map (Value.int .u64)) ++ ([Value.slice none 0 0]))), Go.Lx.box b1 65 ([encS rv6.2.s, Value.int .i64 rv6.2.atv])]) (L := Lt) hs [2, 3, 1] (by decide) rfl)⟩
    ·refine CN [Value.pointer (some ⟨b1, 0, none⟩)] cf36 rfl (ih_regex_reader_repeat hpx6 hs) ?_
     rintro wv22 ⟨gg18, hlegg18, hs⟩
     replace hlegg14 := hlegg14.trans hlegg18
     obtain rfl := Option.some.inj hM
     refine fun hr => ?_
     have hM := congrArg some hr
     obtain rfl := Option.some.inj hM
     have hM := hKhx4
     obtain rfl := Option.some.inj hM
     exact ⟨rfl, hds, gg18, hlegg14, Sep.tail (A := [.row v22 54 tT_Regex.sz xv10.length xs16, Go.Lx.box b2 54 (([Value.int .i64 0]) ++ (((Vec.zero 4).1.map (Value.int .u64)) ++ ([Value.slice none 0 0])))]) (L := Lt) hs⟩
   ·refine WP_false rfl hc6 <| WP_exit ?_
    obtain rfl := Option.some.inj hM
    refine fun hr => ?_
    have hM := congrArg some hr
    obtain rfl := Option.some.inj hM
    exact ⟨xv10, p10, p11, rfl, gg14, v22, xs16, rfl, rfl, hds, hlegg14, hrelxs16, hs⟩
 ·clear hs
  rintro E w ⟨xv7, l3, l4, rfl, gg10, v16, xs11, hE2, hE3, hds, hlegg10, hrelxs11, hs⟩
  have hM := hKhx4
  dsimp only [onStep] at hM
  obtain ⟨E, rfl⟩ := open2 (E := E) hE2 hE3
  replace hagi := hagi.trans hlegg10
  refine WP_seq <| WP_seq <| WP_region <| O (r_move (v := v16) rfl) rfl ?_
  obtain ⟨a1, ca1, hva1⟩ := hs.rowShape (i := 0) rfl
  refine O (r_lenSl (v := v16) Try.underlying52 rfl hva1) rfl <| O (r_eql rfl rfl) rfl <| OW_nil ?_
  rcases condS hM with ⟨hc7, hM⟩ | ⟨hc7, hM⟩
  ·refine WP_true rfl hc7 <| WP_seq <| WP_region <| O (r_build (vs := [(0, Value.int .i64 2)]) (cs := ([Value.int .i64 2]) ++ (((Vec.zero 4).1.map (Value.int .u64)) ++ ([Value.slice none 0 0]))) rfl (built_fill [(0, 1), (1, 4), (5, 1)] (([Value.int .i64 0]) ++ (((Vec.zero 4).1.map (Value.int .u64)) ++ ([Value.slice none 0 0]))) (fun _ => by kernel_rfl) (fill_step ([]) ([Value.int .i64 0]) (((Vec.zero 4).1.map (Value.int .u64)) ++ ([Value.slice none 0 0])) ([Value.int .i64 2]) rfl (by simp) rfl rfl rfl rfl <| fill_done))) rfl <| OW_storeAll ti54 hs (i := 1) rfl rfl (v := Value.agg (List.toArray (α := Value) (([Value.int .i64 2]) ++ (((Vec.zero 4).1.map (Value.int .u64)) ++ ([Value.slice none 0 0]))))) rfl (vs := ([Value.int .i64 2]) ++ (((Vec.zero 4).1.map (Value.int .u64)) ++ ([Value.slice none 0 0]))) rfl (one_append (one_cons rfl one_nil) (one_append vec_one (one_cons rfl one_nil))) (by simp [(Vec.zero 4).2]) (by simp [(Vec.zero 4).2, (Vec.zero 4).2]) ?_
   intro wv26 hs
   refine OW_nil <| WP_ret ?_
   obtain rfl := Option.some.inj hM
   refine FL_nil hds ?_
   exact ⟨_, res1 Try.results28 (rv_cells (vs := ([Value.int .i64 2]) ++ (((Vec.zero 4).1.map (Value.int .u64)) ++ ([Value.slice none 0 0]))) ti54 rfl (by simp [(Vec.zero 4).2]) (hs.cells (i := 1) rfl)), gg10, ⟨([Value.int .i64 2]) ++ (((Vec.zero 4).1.map (Value.int .u64)) ++ ([Value.slice none 0 0])), rfl, (tT_Regex_iff.2 ⟨[Value.int .i64 2], (Vec.zero 4).1.map (Value.int .u64), [Value.slice none 0 0], rfl, rfl, rfl, ⟨_, rfl, RdS.nil⟩⟩)⟩, hagi, (Sep.selT (A := [.row v16 54 tT_Regex.sz xv7.length xs11, Go.Lx.box b2 54 (([Value.int .i64 2]) ++ (((Vec.zero 4).1.map (Value.int .u64)) ++ ([Value.slice none 0 0]))), Go.Lx.box b1 65 ([encS l3, Value.int .i64 l4])]) (A' := [Go.Lx.box b1 65 ([encS l3, Value.int .i64 l4])]) (L := Lt) hs [2] (by decide) rfl)⟩
  ·refine WP_false rfl hc7 <| WP_skip <| WP_seq <| WP_region <| O (r_move (v := v16) rfl) rfl ?_
   obtain ⟨gg20, hlegg20, hRgg20, hs⟩ := hs.relRow (i := 0) rfl hrelxs11
   replace hagi := hagi.trans hlegg20
   obtain ⟨rv7, hrv7, hM⟩ := bindS hM
   refine C [Value.int .i64 4, v16] cf30 rfl (regex_group_ok hrv7 hs.imm hRgg20) rfl ?_
   rintro v32 wv27 ⟨gg21, hvv32, hegg21⟩
   have hlegg21 := hegg21.le hs.imm
   replace hs := hs.call hegg21
   replace hagi := hagi.trans hlegg21
   obtain ⟨cs25, rfl, hcs25⟩ := hvv32
   obtain ⟨cs26, cs27, cs28, rfl, hcs26, hcs27, hcs28⟩ := tT_Regex_iff.1 hcs25
   have hcs26 : cs26 = _ := hcs26; subst hcs26
   have hcs27 : cs27 = _ := hcs27; subst hcs27
   obtain ⟨v33, rfl, hRv33⟩ := hcs28
   refine OW_storeAll ti54 hs (i := 0) rfl rfl (v := Value.agg (List.toArray (α := Value) (([Value.int .i64 rv7.Kind]) ++ ((rv7.Set.1.map (Value.int .u64)) ++ ([v33]))))) rfl (vs := ([Value.int .i64 rv7.Kind]) ++ ((rv7.Set.1.map (Value.int .u64)) ++ ([v33]))) rfl (one_append (one_cons rfl one_nil) (one_append vec_one (one_cons (by obtain ⟨_, _, h9⟩ := hRv33.shape; rw [h9]; rfl) one_nil))) (by simp [rv7.Set.2]) (by simp [rv7.Set.2, (Vec.zero 4).2]) ?_
   intro wv28 hs
   refine OW_nil <| WP_ret ?_
   obtain rfl := Option.some.inj hM
   refine FL_nil hds ?_
   exact ⟨_, res1 Try.results28 (rv_cells (vs := ([Value.int .i64 rv7.Kind]) ++ ((rv7.Set.1.map (Value.int .u64)) ++ ([v33]))) ti54 rfl (by simp [rv7.Set.2]) (hs.cells (i := 0) rfl)), gg21, ⟨([Value.int .i64 rv7.Kind]) ++ ((rv7.Set.1.map (Value.int .u64)) ++ ([v33])), rfl, (tT_Regex_iff.2 ⟨[Value.int .i64 rv7.Kind], rv7.Set.1.map (Value.int .u64), [v33], rfl, rfl, rfl, ⟨_, rfl, hRv33⟩⟩)⟩, hagi, (Sep.selT (A := [Go.Lx.box b2 54 (([Value.int .i64 rv7.Kind]) ++ ((rv7.Set.1.map (Value.int .u64)) ++ ([v33]))), Go.Lx.box b1 65 ([encS l3, Value.int .i64 l4])]) (A' := [Go.Lx.box b1 65 ([encS l3, Value.int .i64 l4])]) (L := Lt) hs [1] (by decide) rfl)⟩

set_option maxRecDepth 100000 in
theorem regex_reader_regex_step {fl : Nat} (ih_regex_reader_branch : C.regex_reader_branch fl) : C.regex_reader_regex (fl + 1) := by
 intro p1 r hM g0 w0 gi wi Lt b1 hs
 unfold M.regex_reader_regex at hM
 have hagi := Hle.refl gi
 refine calls_of_WPX (args := [Value.pointer (some ⟨b1, 0, none⟩)]) Try.func22 rfl Try.ntmps22 rfl ?_
 have hds : (argEnv [Value.pointer (some ⟨b1, 0, none⟩)]).ds = [] := rfl
 refine WP_seq <| WP_region <| OW_alloc ti54 hs (zs := ([Value.int .i64 0]) ++ (((Vec.zero 4).1.map (Value.int .u64)) ++ ([Value.slice none 0 0]))) rfl rfl ?_
 intro b2 wv1 hs
 refine OW_nil <| WP_seq <| WP_region <| O (r_move (v := Value.pointer (some ⟨b1, 0, none⟩)) rfl) rfl ?_
 have hs : Go.Lx.Sep g0 w0 gi _ (Go.Lx.box b1 65 ([encS p1.s, Value.int .i64 p1.atv]) :: Go.Lx.box b2 54 (([Value.int .i64 0]) ++ (((Vec.zero 4).1.map (Value.int .u64)) ++ ([Value.slice none 0 0]))) :: Lt) := (Sep.selT (A := [Go.Lx.box b2 54 (([Value.int .i64 0]) ++ (((Vec.zero 4).1.map (Value.int .u64)) ++ ([Value.slice none 0 0]))), Go.Lx.box b1 65 ([encS p1.s, Value.int .i64 p1.atv])]) (A' := [Go.Lx.box b1 65 ([encS p1.s, Value.int .i64 p1.atv]), Go.Lx.box b2 54 (([Value.int .i64 0]) ++ (((Vec.zero 4).1.map (Value.int .u64)) ++ ([Value.slice none 0 0])))]) (L := Lt) hs [1, 0] (by decide) rfl)
 rcases rtS hM with ⟨rv1, hrv1, hM⟩ | ⟨px1, hpx1, hM⟩
 ·refine C [Value.pointer (some ⟨b1, 0, none⟩)] cf28 rfl (ih_regex_reader_branch hrv1 hs) rfl ?_
  rintro v1 wv3 ⟨gg2, hvv1, hlegg2, hs⟩
  replace hagi := hagi.trans hlegg2
  obtain ⟨cs1, rfl, hcs1⟩ := hvv1
  obtain ⟨cs2, cs3, cs4, rfl, hcs2, hcs3, hcs4⟩ := tT_Regex_iff.1 hcs1
  have hcs2 : cs2 = _ := hcs2; subst hcs2
  have hcs3 : cs3 = _ := hcs3; subst hcs3
  obtain ⟨v2, rfl, hRv2⟩ := hcs4
  refine OW_lit (τ := tT_Regex) [Value.agg (List.toArray (α := Value) (([Value.int .i64 rv1.1.Kind]) ++ ((rv1.1.Set.1.map (Value.int .u64)) ++ ([v2]))))] [rv1.1] Try.underlying52 ti54 (by decide) hs rfl rfl rfl ⟨(tT_Regex_iff.2 ⟨[Value.int .i64 rv1.1.Kind], rv1.1.Set.1.map (Value.int .u64), [v2], rfl, rfl, rfl, ⟨_, rfl, hRv2⟩⟩), trivial⟩ rfl ?_
  intro v3 wv4 xs1 hrelxs1 hs
  refine O (r_assign (v := v3) rfl) rfl <| OW_nil ?_
  obtain ⟨o3, hx1, hKhx1⟩ := stepS hM
  refine WP_cut (fun E w => ∃ (xv4 : (List T_Regex)) (l4 : Str) (l5 : Int), o3 = .next (xv4, l4, l5) ∧ ∃ (gg15 : Hp) (v22 : Value) (xs11 : List Value), E 2 = Value.pointer (some ⟨b2, 0, none⟩) ∧ E 3 = v22 ∧ E.ds = [] ∧ Hle gg2 gg15 ∧ RowRel tT_Regex gg15 xs11 xv4 ∧ Go.Lx.Sep g0 w0 gg15 w (Go.Lx.box b1 65 ([encS l4, Value.int .i64 l5]) :: .row v22 54 tT_Regex.sz xv4.length xs11 :: Go.Lx.box b2 54 (([Value.int .i64 0]) ++ (((Vec.zero 4).1.map (Value.int .u64)) ++ ([Value.slice none 0 0]))) :: Lt)) ?_ ?_
  ·have hM := hx1
   have hagg2 := Hle.refl gg2
   refine WP_block <| WP_loop (fun (st9 : Str × Int × (List T_Regex)) E w => match st9 with | (p10, p11, xv6) => ∃ (gg20 : Hp) (v29 : Value) (xs15 : List Value), E 0 = Value.pointer (some ⟨b1, 0, none⟩) ∧ E 2 = Value.pointer (some ⟨b2, 0, none⟩) ∧ E 3 = v29 ∧ E.ds = [] ∧ Hle gg2 gg20 ∧ RowRel tT_Regex gg20 xs15 xv6 ∧ Go.Lx.Sep g0 w0 gg20 w (.row v29 54 tT_Regex.sz xv6.length xs15 :: Go.Lx.box b1 65 ([encS p10, Value.int .i64 p11]) :: Go.Lx.box b2 54 (([Value.int .i64 0]) ++ (((Vec.zero 4).1.map (Value.int .u64)) ++ ([Value.slice none 0 0]))) :: Lt)) hM ⟨gg2, v3, xs1, rfl, rfl, rfl, hds, (Hle.refl _), hrelxs1, hs⟩ ?_
   clear hs hM
   rintro ⟨p10, p11, xv6⟩ o2 E w hM ⟨gg20, v29, xs15, hE0, hE2, hE3, hds, hlegg20, hrelxs15, hs⟩
   obtain ⟨E, rfl⟩ := open3 (E := E) hE0 hE2 hE3
   replace hagi := hagi.trans hlegg20
   have hagg20 := Hle.refl gg20
   refine WP_seq <| WP_seq <| WP_region <| O (r_move (v := Value.pointer (some ⟨b1, 0, none⟩)) rfl) rfl ?_
   have hs : Go.Lx.Sep g0 w0 gg20 _ (Go.Lx.box b1 65 ([encS p10, Value.int .i64 p11]) :: .row v29 54 tT_Regex.sz xv6.length xs15 :: Go.Lx.box b2 54 (([Value.int .i64 0]) ++ (((Vec.zero 4).1.map (Value.int .u64)) ++ ([Value.slice none 0 0]))) :: Lt) := (Sep.selT (A := [.row v29 54 tT_Regex.sz xv6.length xs15, Go.Lx.box b1 65 ([encS p10, Value.int .i64 p11]), Go.Lx.box b2 54 (([Value.int .i64 0]) ++ (((Vec.zero 4).1.map (Value.int .u64)) ++ ([Value.slice none 0 0])))]) (A' := [Go.Lx.box b1 65 ([encS p10, Value.int .i64 p11]), .row v29 54 tT_Regex.sz xv6.length xs15, Go.Lx.box b2 54 (([Value.int .i64 0]) ++ (((Vec.zero 4).1.map (Value.int .u64)) ++ ([Value.slice none 0 0])))]) (L := Lt) hs [1, 0, 2] (by decide) rfl)
   obtain ⟨rv12, hrv12, hM⟩ := bindS hM
   refine C [Value.pointer (some ⟨b1, 0, none⟩)] cf29 rfl (regex_reader_peek_ok hrv12 hs) rfl ?_
   rintro v36 wv35 ⟨gg25, hvv36, hlegg25, hs⟩
   replace hrelxs15 := hrelxs15.mono hlegg25
   replace hagi := hagi.trans hlegg25
   replace hlegg20 := hlegg20.trans hlegg25
   obtain ⟨cs30, rfl, hcs30⟩ := hvv36
   have hcs30 : cs30 = _ := hcs30; subst hcs30
   refine O (r_eql rfl rfl) rfl <| OW_nil ?_
   rcases condS hM with ⟨hc6, hM⟩ | ⟨hc6, hM⟩
   ·refine WP_true rfl hc6 <| WP_skip <| WP_block <| WP_seq <| WP_region <| O (r_move (v := Value.pointer (some ⟨b1, 0, none⟩)) rfl) rfl <| O (r_nilCheck rfl) rfl <| O (r_fieldAddr Try.underlying65 ti3 rfl rfl (by decide) rfl rfl) rfl <| O (r_load (v := Value.int .i64 p11) ti3 rfl (hs.cell (i := 0) (o := 1) rfl rfl)) rfl ?_
    obtain ⟨t6, ht6, hM⟩ := bindS hM
    refine O (r_addM rfl rfl ht6) rfl <| O (r_nilCheck rfl) rfl <| O (r_fieldAddr Try.underlying65 ti3 rfl rfl (by decide) rfl rfl) rfl <| OW_store1 ti3 hs (i := 0) rfl rfl (v := Value.int .i64 t6) rfl rfl (o := 1) (by simp) ?_
    intro wv36 hs
    refine OW_nil <| WP_region <| O (r_move (v := v29) rfl) rfl <| O (r_move (v := Value.pointer (some ⟨b1, 0, none⟩)) rfl) rfl ?_
    rcases rtS hM with ⟨rv13, hrv13, hM⟩ | ⟨px7, hpx7, hM⟩
    ·refine C [Value.pointer (some ⟨b1, 0, none⟩)] cf28 rfl (ih_regex_reader_branch hrv13 hs) rfl ?_
     rintro v37 wv38 ⟨gg27, hvv37, hlegg27, hs⟩
     replace hrelxs15 := hrelxs15.mono hlegg27
     replace hlegg20 := hlegg20.trans hlegg27
     obtain ⟨cs31, rfl, hcs31⟩ := hvv37
     obtain ⟨cs32, cs33, cs34, rfl, hcs32, hcs33, hcs34⟩ := tT_Regex_iff.1 hcs31
     have hcs32 : cs32 = _ := hcs32; subst hcs32
     have hcs33 : cs33 = _ := hcs33; subst hcs33
     obtain ⟨v38, rfl, hRv38⟩ := hcs34
     refine OW_lit (τ := tT_Regex) [Value.agg (List.toArray (α := Value) (([Value.int .i64 rv13.1.Kind]) ++ ((rv13.1.Set.1.map (Value.int .u64)) ++ ([v38]))))] [rv13.1] Try.underlying52 ti54 (by decide) hs rfl rfl rfl ⟨(tT_Regex_iff.2 ⟨[Value.int .i64 rv13.1.Kind], rv13.1.Set.1.map (Value.int .u64), [v38], rfl, rfl, rfl, ⟨_, rfl, hRv38⟩⟩), trivial⟩ rfl ?_
     intro v39 wv39 xs19 hrelxs19 hs
     obtain ⟨l8, hl8, hM⟩ := bindS hM
     refine OW_append Try.underlying52 ti54 rfl (by decide) (by decide) hs (i := 2) rfl hrelxs15 (v := v29) rfl (u := v39) rfl (hs.rowSrc (i := 0) rfl) hrelxs19 hl8 rfl ?_
     intro v40 wv40 xs20 hrelxs20 hs
     refine O (r_assign (v := v40) rfl) rfl <| OW_nil ?_
     obtain rfl := Option.some.inj hM
     exact ⟨gg27, v40, xs20, rfl, rfl, rfl, hds, hlegg20, hrelxs20, (Sep.selT (A := [.row v39 54 tT_Regex.sz [rv13.1].length xs19, Go.Lx.box b1 65 ([encS rv13.2.s, Value.int .i64 rv13.2.atv]), .row v40 54 tT_Regex.sz l8.length xs20, Go.Lx.box b2 54 (([Value.int .i64 0]) ++ (((Vec.zero 4).1.map (Value.int .u64)) ++ ([Value.slice none 0 0])))]) (A' := [.row v40 54 tT_Regex.sz l8.length xs20, Go.Lx.box b1 65 ([encS rv13.2.s, Value.int .i64 rv13.2.atv]), Go.Lx.box b2 54 (([Value.int .i64 0]) ++ (((Vec.zero 4).1.map (Value.int .u64)) ++ ([Value.slice none 0 0])))]) (L := Lt) hs [2, 1, 3] (by decide) rfl)⟩
    ·refine CN [Value.pointer (some ⟨b1, 0, none⟩)] cf28 rfl (ih_regex_reader_branch hpx7 hs) ?_
     rintro wv37 ⟨gg26, hlegg26, hs⟩
     replace hagi := hagi.trans hlegg26
     obtain rfl := Option.some.inj hM
     refine fun hr => ?_
     have hM := congrArg some hr
     obtain rfl := Option.some.inj hM
     have hM := hKhx1
     obtain rfl := Option.some.inj hM
     exact ⟨rfl, hds, gg26, hagi, Sep.tail (A := [.row v29 54 tT_Regex.sz xv6.length xs15, Go.Lx.box b2 54 (([Value.int .i64 0]) ++ (((Vec.zero 4).1.map (Value.int .u64)) ++ ([Value.slice none 0 0])))]) (L := Lt) hs⟩
   ·refine WP_false rfl hc6 <| WP_exit ?_
    obtain rfl := Option.some.inj hM
    refine fun hr => ?_
    have hM := congrArg some hr
    obtain rfl := Option.some.inj hM
    exact ⟨xv6, p10, p11, rfl, gg25, v29, xs15, rfl, rfl, hds, hlegg20, hrelxs15, hs⟩
  ·clear hs
   rintro E w ⟨xv4, l4, l5, rfl, gg15, v22, xs11, hE2, hE3, hds, hlegg15, hrelxs11, hs⟩
   have hM := hKhx1
   dsimp only [onStep] at hM
   obtain ⟨E, rfl⟩ := open2 (E := E) hE2 hE3
   replace hagi := hagi.trans hlegg15
   refine WP_seq <| WP_region <| O (r_move (v := v22) rfl) rfl ?_
   obtain ⟨gg28, hlegg28, hRgg28, hs⟩ := hs.relRow (i := 1) rfl hrelxs11
   replace hagi := hagi.trans hlegg28
   obtain ⟨rv14, hrv14, hM⟩ := bindS hM
   refine C [Value.int .i64 5, v22] cf30 rfl (regex_group_ok hrv14 hs.imm hRgg28) rfl ?_
   rintro v41 wv41 ⟨gg29, hvv41, hegg29⟩
   have hlegg29 := hegg29.le hs.imm
   replace hs := hs.call hegg29
   replace hagi := hagi.trans hlegg29
   obtain ⟨cs35, rfl, hcs35⟩ := hvv41
   obtain ⟨cs36, cs37, cs38, rfl, hcs36, hcs37, hcs38⟩ := tT_Regex_iff.1 hcs35
   have hcs36 : cs36 = _ := hcs36; subst hcs36
   have hcs37 : cs37 = _ := hcs37; subst hcs37
   obtain ⟨v42, rfl, hRv42⟩ := hcs38
   refine OW_storeAll ti54 hs (i := 1) rfl rfl (v := Value.agg (List.toArray (α := Value) (([Value.int .i64 rv14.Kind]) ++ ((rv14.Set.1.map (Value.int .u64)) ++ ([v42]))))) rfl (vs := ([Value.int .i64 rv14.Kind]) ++ ((rv14.Set.1.map (Value.int .u64)) ++ ([v42]))) rfl (one_append (one_cons rfl one_nil) (one_append vec_one (one_cons (by obtain ⟨_, _, h9⟩ := hRv42.shape; rw [h9]; rfl) one_nil))) (by simp [rv14.Set.2]) (by simp [rv14.Set.2, (Vec.zero 4).2]) ?_
   intro wv42 hs
   refine OW_nil <| WP_ret ?_
   obtain rfl := Option.some.inj hM
   refine FL_nil hds ?_
   exact ⟨_, res1 Try.results22 (rv_cells (vs := ([Value.int .i64 rv14.Kind]) ++ ((rv14.Set.1.map (Value.int .u64)) ++ ([v42]))) ti54 rfl (by simp [rv14.Set.2]) (hs.cells (i := 1) rfl)), gg29, ⟨([Value.int .i64 rv14.Kind]) ++ ((rv14.Set.1.map (Value.int .u64)) ++ ([v42])), rfl, (tT_Regex_iff.2 ⟨[Value.int .i64 rv14.Kind], rv14.Set.1.map (Value.int .u64), [v42], rfl, rfl, rfl, ⟨_, rfl, hRv42⟩⟩)⟩, hagi, (Sep.selT (A := [Go.Lx.box b1 65 ([encS l4, Value.int .i64 l5]), Go.Lx.box b2 54 (([Value.int .i64 rv14.Kind]) ++ ((rv14.Set.1.map (Value.int .u64)) ++ ([v42])))]) (A' := [Go.Lx.box b1 65 ([encS l4, Value.int .i64 l5])]) (L := Lt) hs [0] (by decide) rfl)⟩
 ·refine CN [Value.pointer (some ⟨b1, 0, none⟩)] cf28 rfl (ih_regex_reader_branch hpx1 hs) ?_
  rintro wv2 ⟨gg1, hlegg1, hs⟩
  replace hagi := hagi.trans hlegg1
  obtain rfl := Option.some.inj hM
  exact ⟨rfl, hds, gg1, hagi, Sep.tail (A := [Go.Lx.box b2 54 (([Value.int .i64 0]) ++ (((Vec.zero 4).1.map (Value.int .u64)) ++ ([Value.slice none 0 0])))]) (L := Lt) hs⟩
theorem regex_reader_atom_zero : C.regex_reader_atom 0 := by
  unfold C.regex_reader_atom
  intros
  simp_all only [M.regex_reader_atom, reduceCtorEq]
theorem regex_reader_repeat_zero : C.regex_reader_repeat 0 := by
  unfold C.regex_reader_repeat
  intros
  simp_all only [M.regex_reader_repeat, reduceCtorEq]
theorem regex_reader_branch_zero : C.regex_reader_branch 0 := by
  unfold C.regex_reader_branch
  intros
  simp_all only [M.regex_reader_branch, reduceCtorEq]
theorem regex_reader_regex_zero : C.regex_reader_regex 0 := by
  unfold C.regex_reader_regex
  intros
  simp_all only [M.regex_reader_regex, reduceCtorEq]
theorem regex_reader_atom_all : ∀ fl, C.regex_reader_atom fl ∧ C.regex_reader_repeat fl ∧ C.regex_reader_branch fl ∧ C.regex_reader_regex fl := by
  intro fl
  induction fl with
  | zero => exact ⟨regex_reader_atom_zero, regex_reader_repeat_zero, regex_reader_branch_zero, regex_reader_regex_zero⟩
  | succ fl ih =>
    obtain ⟨ih_regex_reader_atom, ih_regex_reader_repeat, ih_regex_reader_branch, ih_regex_reader_regex⟩ := ih
    exact ⟨regex_reader_atom_step ih_regex_reader_regex, regex_reader_repeat_step ih_regex_reader_atom, regex_reader_branch_step ih_regex_reader_repeat, regex_reader_regex_step ih_regex_reader_branch⟩
theorem regex_reader_atom_ok {fl : Nat} : C.regex_reader_atom fl := (regex_reader_atom_all fl).1
theorem regex_reader_repeat_ok {fl : Nat} : C.regex_reader_repeat fl := (regex_reader_atom_all fl).2.1
theorem regex_reader_branch_ok {fl : Nat} : C.regex_reader_branch fl := (regex_reader_atom_all fl).2.2.1
theorem regex_reader_regex_ok {fl : Nat} : C.regex_reader_regex fl := (regex_reader_atom_all fl).2.2.2

set_option maxRecDepth 100000 in
theorem regex_Parse_1_ret {c1 : T_Regex} {c2 : Int} {c3 : Int} {g0 : Hp} {w0 : World} {gi : Hp} {wi : World} {Lt : List Res} {b1 : Nat} {b2 : Nat} {b3 : Nat} {v1 : Value} (hs : Sep g0 w0 gi wi (Go.Lx.box b1 54 (([Value.int .i64 c1.Kind]) ++ ((c1.Set.1.map (Value.int .u64)) ++ ([v1]))) :: Go.Lx.box b2 3 ([Value.int .i64 c2]) :: Go.Lx.box b3 55 ([Value.int .i64 c3]) :: Lt)) (hRv1 : RdS tT_Regex gi v1 c1.Kids) :
    CallsR Try.prog 21 #[Value.pointer (some ⟨b1, 0, none⟩), Value.pointer (some ⟨b2, 0, none⟩), Value.pointer (some ⟨b3, 0, none⟩)] .returning .returning wi (fun w' => ∃ g', Hle gi g' ∧ Sep g0 w0 g' w' (Go.Lx.box b1 54 (([Value.int .i64 c1.Kind]) ++ ((c1.Set.1.map (Value.int .u64)) ++ ([v1]))) :: Go.Lx.box b2 3 ([Value.int .i64 c2]) :: Go.Lx.box b3 55 ([Value.int .i64 c3]) :: Lt)) := by
 have hagi := Hle.refl gi
 refine calls_rec (args := [Value.pointer (some ⟨b1, 0, none⟩), Value.pointer (some ⟨b2, 0, none⟩), Value.pointer (some ⟨b3, 0, none⟩)]) (val := Value.nilIface) (.inl ⟨rfl, rfl, rfl⟩) Try.func21 rfl Try.ntmps21 rfl rfl rfl ?_
 have hds : (argEnv [Value.pointer (some ⟨b1, 0, none⟩), Value.pointer (some ⟨b2, 0, none⟩), Value.pointer (some ⟨b3, 0, none⟩)]).ds = [] := rfl
 refine WP_seq <| WP_region <| O (r_move (v := Value.nilIface) rfl) rfl <| O (r_neqNilN Try.underlying20 rfl rfl) rfl <| OW_nil <| WP_false rfl rfl <| WP_skip ?_
 exact ⟨hds, _, res_none Try.results21, gi, (Hle.refl _), hs⟩

set_option maxRecDepth 100000 in
theorem regex_Parse_1_pan {c1 : T_Regex} {c2 : Int} {c3 : Int} {x1 : Int} {r : T_Regex × Int × Int} (hM : M.regex_Parse_1 x1 c1 c2 c3 = some r) {g0 : Hp} {w0 : World} {gi : Hp} {wi : World} {Lt : List Res} {b1 : Nat} {b2 : Nat} {b3 : Nat} {v1 : Value} (hs : Sep g0 w0 gi wi (Go.Lx.box b1 54 (([Value.int .i64 c1.Kind]) ++ ((c1.Set.1.map (Value.int .u64)) ++ ([v1]))) :: Go.Lx.box b2 3 ([Value.int .i64 c2]) :: Go.Lx.box b3 55 ([Value.int .i64 c3]) :: Lt)) (hRv1 : RdS tT_Regex gi v1 c1.Kids) :
    CallsR Try.prog 21 #[Value.pointer (some ⟨b1, 0, none⟩), Value.pointer (some ⟨b2, 0, none⟩), Value.pointer (some ⟨b3, 0, none⟩)] (.panicking (pent (.iface 62 (.int .i64 x1)))) (recd (.iface 62 (.int .i64 x1))) wi (fun w' => ∃ g' v2, Hle gi g' ∧ RdS tT_Regex g' v2 r.1.Kids ∧ Sep g0 w0 g' w' (Go.Lx.box b1 54 (([Value.int .i64 r.1.Kind]) ++ ((r.1.Set.1.map (Value.int .u64)) ++ ([v2]))) :: Go.Lx.box b2 3 ([Value.int .i64 r.2.1]) :: Go.Lx.box b3 55 ([Value.int .i64 r.2.2]) :: Lt)) := by
 unfold M.regex_Parse_1 at hM
 have hagi := Hle.refl gi
 refine calls_rec (args := [Value.pointer (some ⟨b1, 0, none⟩), Value.pointer (some ⟨b2, 0, none⟩), Value.pointer (some ⟨b3, 0, none⟩)]) (val := Value.iface 62 (Value.int .i64 x1)) (.inr ⟨rfl, rfl⟩) Try.func21 rfl Try.ntmps21 rfl rfl rfl ?_
 have hds : (argEnv [Value.pointer (some ⟨b1, 0, none⟩), Value.pointer (some ⟨b2, 0, none⟩), Value.pointer (some ⟨b3, 0, none⟩)]).ds = [] := rfl
 refine WP_seq <| WP_region <| O (r_move (v := Value.iface 62 (Value.int .i64 x1)) rfl) rfl <| O (r_neqNilI Try.underlying20 rfl rfl) rfl <| OW_nil <| WP_true rfl rfl <| WP_any (.q 0 (.q 1 (.q 2 (.s 3 (.s 4 (.s 5 (.leaf))))))) (SS g0 w0 gi (Lt)) mo (by decide +kernel) ?_
 have hs := hs.drew
 have hRv1b := hRv1
 have hS : SS g0 w0 gi (Lt) _ := ⟨gi, Hle.refl _, (Sep.selT (A := [Go.Lx.box b1 54 (([Value.int .i64 c1.Kind]) ++ ((c1.Set.1.map (Value.int .u64)) ++ ([v1]))), Go.Lx.box b2 3 ([Value.int .i64 c2]), Go.Lx.box b3 55 ([Value.int .i64 c3])]) (A' := []) (L := Lt) hs [] (by decide) rfl)⟩
 refine A rfl hS (fun w9 ⟨g9, hle9, hs⟩ => r_build (vs := []) (cs := ([Value.int .i64 0]) ++ (((Vec.zero 4).1.map (Value.int .u64)) ++ ([Value.slice none 0 0]))) rfl (built_fill [(0, 1), (1, 4), (5, 1)] (([Value.int .i64 0]) ++ (((Vec.zero 4).1.map (Value.int .u64)) ++ ([Value.slice none 0 0]))) (fun _ => by kernel_rfl) (fill_done))) rfl <| A rfl hS (fun w9 ⟨g9, hle9, hs⟩ => r_move (v := Value.iface 62 (Value.int .i64 x1)) rfl) rfl <| A rfl hS (fun w9 ⟨g9, hle9, hs⟩ => r_typeAssert Try.underlying62 rfl rfl) rfl <| A1 rfl <| OW_storeAll ti54 hs (i := 0) rfl rfl (v := Value.agg (List.toArray (α := Value) (([Value.int .i64 0]) ++ (((Vec.zero 4).1.map (Value.int .u64)) ++ ([Value.slice none 0 0]))))) rfl (vs := ([Value.int .i64 0]) ++ (((Vec.zero 4).1.map (Value.int .u64)) ++ ([Value.slice none 0 0]))) rfl (one_append (one_cons rfl one_nil) (one_append vec_one (one_cons rfl one_nil))) (by simp [(Vec.zero 4).2]) (by simp [(Vec.zero 4).2, c1.Set.2]) ?_
 intro wv2 hs
 refine OW_nil ?_
 replace hS := hS.to (Hle.refl _) (Sep.selT (A := [Go.Lx.box b1 54 (([Value.int .i64 0]) ++ (((Vec.zero 4).1.map (Value.int .u64)) ++ ([Value.slice none 0 0]))), Go.Lx.box b2 3 ([Value.int .i64 c2]), Go.Lx.box b3 55 ([Value.int .i64 c3])]) (A' := []) (L := Lt) hs [] (by decide) rfl)
 refine ⟨fun _ => hS, ?_⟩
 refine A1 rfl <| OW_store1 ti3 hs (i := 1) rfl rfl (v := Value.int .i64 x1) rfl rfl (o := 0) (Nat.zero_lt_succ _) ?_
 intro wv3 hs
 refine OW_nil ?_
 refine ⟨fun h => absurd h (by decide +kernel), ?_⟩
 refine A1 rfl <| OW_store1 ti55 hs (i := 2) rfl rfl (v := Value.int .i64 3) rfl rfl (o := 0) (Nat.zero_lt_succ _) ?_
 intro wv4 hs
 refine OW_nil ?_
 refine ⟨fun h => absurd h (by decide +kernel), ?_⟩
 refine AN ?_
 obtain rfl := Option.some.inj hM
 exact ⟨hds, _, res_none Try.results21, gi, Value.slice none 0 0, (Hle.refl _), RdS.nil, hs⟩

set_option maxRecDepth 100000 in
theorem regex_Parse_ok {s1 : Str} {r : T_Regex × Int × Int} (hM : M.regex_Parse s1 = some r) {g0 : Hp} {w0 : World} (hi : Imm g0 w0) :
    CallsV Try.prog 17 #[encS s1] w0 (fun v w' => ∃ g', (∃ v1 v2 v3, v = .tuple #[v1, v2, v3] ∧ VRd tT_Regex true g' v1 r.1 ∧ VRd (tInt .i64) false g' v2 r.2.1 ∧ VRd (tInt .i64) false g' v3 r.2.2) ∧ Ext g0 w0 g' w') := by
 unfold M.regex_Parse at hM
 have hs := Sep.start hi
 refine calls_of_WPV (args := [encS s1]) Try.func17 rfl Try.ntmps17 rfl ?_
 have hds : (argEnv [encS s1]).ds = [] := rfl
 refine WP_seq <| WP_region <| OW_alloc ti54 hs (zs := ([Value.int .i64 0]) ++ (((Vec.zero 4).1.map (Value.int .u64)) ++ ([Value.slice none 0 0]))) rfl rfl ?_
 intro b1 wv1 hs
 refine OW_alloc ti3 hs (zs := [Value.int .i64 0]) rfl rfl ?_
 intro b2 wv2 hs
 refine OW_alloc ti55 hs (zs := [Value.int .i64 0]) rfl rfl ?_
 intro b3 wv3 hs
 refine OW_nil <| WP_seq <| WP_region <| O (r_makeFunc (vs := [Value.pointer (some ⟨b1, 0, none⟩), Value.pointer (some ⟨b2, 0, none⟩), Value.pointer (some ⟨b3, 0, none⟩)]) rfl) rfl <| OW_defer [Value.pointer (some ⟨b1, 0, none⟩), Value.pointer (some ⟨b2, 0, none⟩), Value.pointer (some ⟨b3, 0, none⟩)] rfl rfl ?_
 have hds := congrArg (List.cons (deferD 21 [Value.pointer (some ⟨b1, 0, none⟩), Value.pointer (some ⟨b2, 0, none⟩), Value.pointer (some ⟨b3, 0, none⟩)])) hds
 refine OW_nil <| WP_seq <| WP_region <| O (r_move (v := encS s1) rfl) rfl <| O (r_build (vs := [(0, encS s1)]) (cs := [encS s1, Value.int .i64 0]) rfl (by kernel_rfl)) rfl <| OW_box (v := Value.agg (List.toArray (α := Value) [encS s1, Value.int .i64 0])) rfl hs (zs := [encS s1, Value.int .i64 0]) rfl rfl ?_
 intro b4 wv4 hs
 refine O (r_assign (v := Value.pointer (some ⟨b4, 0, none⟩)) rfl) rfl <| OW_nil <| WP_seq <| WP_region <| O (r_move (v := Value.pointer (some ⟨b4, 0, none⟩)) rfl) rfl ?_
 rcases rtS hM with ⟨rv1, hrv1, hM⟩ | ⟨px1, hpx1, hM⟩
 ·refine C [Value.pointer (some ⟨b4, 0, none⟩)] cf22 rfl (regex_reader_regex_ok hrv1 hs) rfl ?_
  rintro v2 wv7 ⟨gg3, hvv2, hlegg3, hs⟩
  obtain ⟨cs1, rfl, hcs1⟩ := hvv2
  obtain ⟨cs2, cs3, cs4, rfl, hcs2, hcs3, hcs4⟩ := tT_Regex_iff.1 hcs1
  have hcs2 : cs2 = _ := hcs2; subst hcs2
  have hcs3 : cs3 = _ := hcs3; subst hcs3
  obtain ⟨v3, rfl, hRv3⟩ := hcs4
  refine OW_storeAll ti54 hs (i := 3) rfl rfl (v := Value.agg (List.toArray (α := Value) (([Value.int .i64 rv1.1.Kind]) ++ ((rv1.1.Set.1.map (Value.int .u64)) ++ ([v3]))))) rfl (vs := ([Value.int .i64 rv1.1.Kind]) ++ ((rv1.1.Set.1.map (Value.int .u64)) ++ ([v3]))) rfl (one_append (one_cons rfl one_nil) (one_append vec_one (one_cons (by obtain ⟨_, _, h9⟩ := hRv3.shape; rw [h9]; rfl) one_nil))) (by simp [rv1.1.Set.2]) (by simp [rv1.1.Set.2, (Vec.zero 4).2]) ?_
  intro wv8 hs
  refine OW_nil ?_
  obtain ⟨o1, hx1, hKhx1⟩ := stepS hM
  refine WP_cut (fun E w => ∃ u9 : Unit, o1 = .next u9 ∧ ∃ (gg6 : Hp), E 2 = Value.pointer (some ⟨b1, 0, none⟩) ∧ E 3 = Value.pointer (some ⟨b2, 0, none⟩) ∧ E 4 = Value.pointer (some ⟨b3, 0, none⟩) ∧ E.ds = [deferD 21 [Value.pointer (some ⟨b1, 0, none⟩), Value.pointer (some ⟨b2, 0, none⟩), Value.pointer (some ⟨b3, 0, none⟩)]] ∧ Hle gg3 gg6 ∧ Go.Lx.Sep g0 w0 gg6 w [Go.Lx.box b3 55 ([Value.int .i64 0]), Go.Lx.box b2 3 ([Value.int .i64 0]), Go.Lx.box b1 54 (([Value.int .i64 rv1.1.Kind]) ++ ((rv1.1.Set.1.map (Value.int .u64)) ++ ([v3])))]) ?_ ?_
  ·have hM := hx1
   have hagg3 := Hle.refl gg3
   refine WP_seq <| WP_region <| O (r_move (v := Value.pointer (some ⟨b4, 0, none⟩)) rfl) rfl <| O (r_nilCheck rfl) rfl <| O (r_fieldAddr Try.underlying65 ti3 rfl rfl (by decide) rfl rfl) rfl <| O (r_load (v := Value.int .i64 rv1.2.atv) ti3 rfl (hs.cell (i := 0) (o := 1) rfl rfl)) rfl <| O (r_move (v := encS s1) rfl) rfl <| O (r_lenStr Try.underlying9 rfl) rfl <| O (r_lss rfl rfl) rfl <| OW_nil ?_
   rcases condS hM with ⟨hc2, hM⟩ | ⟨hc2, hM⟩
   ·refine WP_true rfl hc2 <| WP_region <| O (r_move (v := Value.pointer (some ⟨b4, 0, none⟩)) rfl) rfl ?_
    rcases rtS hM with ⟨rv3, hrv3, hM⟩ | ⟨px3, hpx3, hM⟩
    ·refine C [Value.pointer (some ⟨b4, 0, none⟩)] cf23 rfl (regex_reader_fail_ok hrv3 hs) rfl ?_
     rintro v6 wv13 ⟨gg9, hvv6, hlegg9, hs⟩
     replace hagg3 := hagg3.trans hlegg9
     refine OW_nil ?_
     obtain rfl := Option.some.inj hM
     exact ⟨(), rfl, gg9, rfl, rfl, rfl, hds, hagg3, (hs.sub (.cons _ (.cons_cons _ (.cons_cons _ (.cons_cons _ .slnil)))))⟩
    ·refine CN [Value.pointer (some ⟨b4, 0, none⟩)] cf23 rfl (regex_reader_fail_ok hpx3 hs) ?_
     rintro wv11 ⟨gg7, hlegg7, hs⟩
     replace hRv3 := hRv3.mono hlegg7
     obtain rfl := Option.some.inj hM
     have hM := hKhx1
     obtain rfl := Option.some.inj hM
     have hs : Go.Lx.Sep g0 w0 gg7 _ [Go.Lx.box b1 54 (([Value.int .i64 rv1.1.Kind]) ++ ((rv1.1.Set.1.map (Value.int .u64)) ++ ([v3]))), Go.Lx.box b2 3 ([Value.int .i64 0]), Go.Lx.box b3 55 ([Value.int .i64 0])] := (hs.sel [2, 1, 0] (by decide) rfl)
     refine LV_cons hds (fun h => (by cases h)) cf21 (regex_Parse_1_pan (x1 := px3) (c1 := rv1.1) (c2 := 0) (c3 := 0) rfl hs hRv3) ?_
     rintro wv12 ⟨gg8, v5, hlegg8, hRv5, hs⟩
     refine LV_nil rfl rfl ?_
     exact ⟨_, res3 Try.results17 (rv_cells (vs := ([Value.int .i64 ((T_Regex.mk 0 (Vec.zero 4) []).Kind)]) ++ ((((T_Regex.mk 0 (Vec.zero 4) []).Set).1.map (Value.int .u64)) ++ ([v5]))) ti54 rfl (by simp [((T_Regex.mk 0 (Vec.zero 4) []).Set).2]) (hs.cells (i := 0) rfl)) (rv_cell (v := Value.int .i64 px3) ti3 rfl (hs.cell (i := 1) (o := 0) rfl rfl)) (rv_cell (v := Value.int .i64 3) ti55 rfl (hs.cell (i := 2) (o := 0) rfl rfl)), gg8, ⟨_, _, _, rfl, ⟨([Value.int .i64 ((T_Regex.mk 0 (Vec.zero 4) []).Kind)]) ++ ((((T_Regex.mk 0 (Vec.zero 4) []).Set).1.map (Value.int .u64)) ++ ([v5])), rfl, (tT_Regex_iff.2 ⟨[Value.int .i64 ((T_Regex.mk 0 (Vec.zero 4) []).Kind)], ((T_Regex.mk 0 (Vec.zero 4) []).Set).1.map (Value.int .u64), [v5], rfl, rfl, rfl, ⟨_, rfl, hRv5⟩⟩)⟩, ⟨[Value.int .i64 px3], rfl, rfl⟩, ⟨[Value.int .i64 3], rfl, rfl⟩⟩, hs.ext⟩
   ·refine WP_false rfl hc2 <| WP_skip ?_
    obtain rfl := Option.some.inj hM
    exact ⟨(), rfl, gg3, rfl, rfl, rfl, hds, (Hle.refl _), (hs.sub (.cons _ (.cons_cons _ (.cons_cons _ (.cons_cons _ .slnil)))))⟩
  ·clear hs
   rintro E w ⟨_, rfl, gg6, hE2, hE3, hE4, hds, hlegg6, hs⟩
   have hM := hKhx1
   dsimp only [onStep] at hM
   obtain ⟨E, rfl⟩ := open3 (E := E) hE2 hE3 hE4
   replace hRv3 := hRv3.mono hlegg6
   refine WP_seq <| WP_seq <| WP_region <| O (r_loadN (cs := ([Value.int .i64 rv1.1.Kind]) ++ ((rv1.1.Set.1.map (Value.int .u64)) ++ ([v3]))) ti54 rfl (by simp [rv1.1.Set.2]) (hs.cells (i := 2) rfl)) rfl ?_
   obtain ⟨rv4, hrv4, hM⟩ := bindS hM
   refine C [Value.agg (List.toArray (α := Value) (([Value.int .i64 rv1.1.Kind]) ++ ((rv1.1.Set.1.map (Value.int .u64)) ++ ([v3]))))] cf24 rfl (regex_Valid_ok hrv4 hs.imm (tT_Regex_iff.2 ⟨[Value.int .i64 rv1.1.Kind], rv1.1.Set.1.map (Value.int .u64), [v3], rfl, rfl, rfl, ⟨_, rfl, hRv3⟩⟩)) rfl ?_
   rintro v7 wv14 ⟨gg10, hvv7, hegg10⟩
   have hlegg10 := hegg10.le hs.imm
   replace hs := hs.call hegg10
   replace hRv3 := hRv3.mono hlegg10
   obtain ⟨cs5, rfl, hcs5⟩ := hvv7
   have hcs5 : cs5 = _ := hcs5; subst hcs5
   refine O (r_not rfl) rfl <| OW_nil ?_
   rcases condS hM with ⟨hc3, hM⟩ | ⟨hc3, hM⟩
   ·refine WP_true rfl hc3 <| WP_seq <| WP_region <| O (r_build (vs := []) (cs := ([Value.int .i64 0]) ++ (((Vec.zero 4).1.map (Value.int .u64)) ++ ([Value.slice none 0 0]))) rfl (built_fill [(0, 1), (1, 4), (5, 1)] (([Value.int .i64 0]) ++ (((Vec.zero 4).1.map (Value.int .u64)) ++ ([Value.slice none 0 0]))) (fun _ => by kernel_rfl) (fill_done))) rfl <| OW_storeAll ti54 hs (i := 2) rfl rfl (v := Value.agg (List.toArray (α := Value) (([Value.int .i64 0]) ++ (((Vec.zero 4).1.map (Value.int .u64)) ++ ([Value.slice none 0 0]))))) rfl (vs := ([Value.int .i64 0]) ++ (((Vec.zero 4).1.map (Value.int .u64)) ++ ([Value.slice none 0 0]))) rfl (one_append (one_cons rfl one_nil) (one_append vec_one (one_cons rfl one_nil))) (by simp [(Vec.zero 4).2]) (by simp [(Vec.zero 4).2, rv1.1.Set.2]) ?_
    intro wv15 hs
    refine OW_store1 ti3 hs (i := 1) rfl rfl (v := Value.int .i64 0) rfl rfl (o := 0) (Nat.zero_lt_succ _) ?_
    intro wv16 hs
    refine OW_store1 ti55 hs (i := 0) rfl rfl (v := Value.int .i64 11) rfl rfl (o := 0) (Nat.zero_lt_succ _) ?_
    intro wv17 hs
    refine OW_nil <| WP_ret ?_
    obtain rfl := Option.some.inj hM
    have hs : Go.Lx.Sep g0 w0 gg10 _ [Go.Lx.box b1 54 (([Value.int .i64 0]) ++ (((Vec.zero 4).1.map (Value.int .u64)) ++ ([Value.slice none 0 0]))), Go.Lx.box b2 3 ([Value.int .i64 0]), Go.Lx.box b3 55 ([Value.int .i64 11])] := (hs.sel [2, 1, 0] (by decide) rfl)
    refine LV_cons hds (fun h => (by cases h)) cf21 (regex_Parse_1_ret (c1 := (T_Regex.mk 0 (Vec.zero 4) [])) (c2 := 0) (c3 := 11) hs (RdS.nil (τ := tT_Regex) (g := gg10))) ?_
    rintro wv18 ⟨gg11, hlegg11, hs⟩
    refine LV_nil rfl rfl ?_
    exact ⟨_, res3 Try.results17 (rv_cells (vs := ([Value.int .i64 0]) ++ (((Vec.zero 4).1.map (Value.int .u64)) ++ ([Value.slice none 0 0]))) ti54 rfl (by simp [(Vec.zero 4).2]) (hs.cells (i := 0) rfl)) (rv_cell (v := Value.int .i64 0) ti3 rfl (hs.cell (i := 1) (o := 0) rfl rfl)) (rv_cell (v := Value.int .i64 11) ti55 rfl (hs.cell (i := 2) (o := 0) rfl rfl)), gg11, ⟨_, _, _, rfl, ⟨([Value.int .i64 0]) ++ (((Vec.zero 4).1.map (Value.int .u64)) ++ ([Value.slice none 0 0])), rfl, (tT_Regex_iff.2 ⟨[Value.int .i64 0], (Vec.zero 4).1.map (Value.int .u64), [Value.slice none 0 0], rfl, rfl, rfl, ⟨_, rfl, RdS.nil⟩⟩)⟩, ⟨[Value.int .i64 0], rfl, rfl⟩, ⟨[Value.int .i64 11], rfl, rfl⟩⟩, hs.ext⟩
   ·refine WP_false rfl hc3 <| WP_skip <| WP_seq <| WP_region <| O (r_loadN (cs := ([Value.int .i64 rv1.1.Kind]) ++ ((rv1.1.Set.1.map (Value.int .u64)) ++ ([v3]))) ti54 rfl (by simp [rv1.1.Set.2]) (hs.cells (i := 2) rfl)) rfl <| OW_storeAll ti54 hs (i := 2) rfl rfl (v := Value.agg (List.toArray (α := Value) (([Value.int .i64 rv1.1.Kind]) ++ ((rv1.1.Set.1.map (Value.int .u64)) ++ ([v3]))))) rfl (vs := ([Value.int .i64 rv1.1.Kind]) ++ ((rv1.1.Set.1.map (Value.int .u64)) ++ ([v3]))) rfl (one_append (one_cons rfl one_nil) (one_append vec_one (one_cons (by obtain ⟨_, _, h9⟩ := hRv3.shape; rw [h9]; rfl) one_nil))) (by simp [rv1.1.Set.2]) (by simp [rv1.1.Set.2, rv1.1.Set.2]) ?_
    intro wv19 hs
    refine OW_store1 ti3 hs (i := 1) rfl rfl (v := Value.int .i64 0) rfl rfl (o := 0) (Nat.zero_lt_succ _) ?_
    intro wv20 hs
    refine OW_store1 ti55 hs (i := 0) rfl rfl (v := Value.int .i64 0) rfl rfl (o := 0) (Nat.zero_lt_succ _) ?_
    intro wv21 hs
    refine OW_nil <| WP_ret ?_
    obtain rfl := Option.some.inj hM
    have hs : Go.Lx.Sep g0 w0 gg10 _ [Go.Lx.box b1 54 (([Value.int .i64 rv1.1.Kind]) ++ ((rv1.1.Set.1.map (Value.int .u64)) ++ ([v3]))), Go.Lx.box b2 3 ([Value.int .i64 0]), Go.Lx.box b3 55 ([Value.int .i64 0])] := (hs.sel [2, 1, 0] (by decide) rfl)
    refine LV_cons hds (fun h => (by cases h)) cf21 (regex_Parse_1_ret (c1 := rv1.1) (c2 := 0) (c3 := 0) hs hRv3) ?_
    rintro wv22 ⟨gg12, hlegg12, hs⟩
    replace hRv3 := hRv3.mono hlegg12
    refine LV_nil rfl rfl ?_
    exact ⟨_, res3 Try.results17 (rv_cells (vs := ([Value.int .i64 rv1.1.Kind]) ++ ((rv1.1.Set.1.map (Value.int .u64)) ++ ([v3]))) ti54 rfl (by simp [rv1.1.Set.2]) (hs.cells (i := 0) rfl)) (rv_cell (v := Value.int .i64 0) ti3 rfl (hs.cell (i := 1) (o := 0) rfl rfl)) (rv_cell (v := Value.int .i64 0) ti55 rfl (hs.cell (i := 2) (o := 0) rfl rfl)), gg12, ⟨_, _, _, rfl, ⟨([Value.int .i64 rv1.1.Kind]) ++ ((rv1.1.Set.1.map (Value.int .u64)) ++ ([v3])), rfl, (tT_Regex_iff.2 ⟨[Value.int .i64 rv1.1.Kind], rv1.1.Set.1.map (Value.int .u64), [v3], rfl, rfl, rfl, ⟨_, rfl, hRv3⟩⟩)⟩, ⟨[Value.int .i64 0], rfl, rfl⟩, ⟨[Value.int .i64 0], rfl, rfl⟩⟩, hs.ext⟩
 ·refine CN [Value.pointer (some ⟨b4, 0, none⟩)] cf22 rfl (regex_reader_regex_ok hpx1 hs) ?_
  rintro wv5 ⟨gg1, hlegg1, hs⟩
  obtain rfl := Option.some.inj hM
  have hs : Go.Lx.Sep g0 w0 gg1 _ [Go.Lx.box b1 54 (([Value.int .i64 0]) ++ (((Vec.zero 4).1.map (Value.int .u64)) ++ ([Value.slice none 0 0]))), Go.Lx.box b2 3 ([Value.int .i64 0]), Go.Lx.box b3 55 ([Value.int .i64 0])] := (hs.sel [2, 1, 0] (by decide) rfl)
  refine LV_cons hds (fun h => (by cases h)) cf21 (regex_Parse_1_pan (x1 := px1) (c1 := (T_Regex.mk 0 (Vec.zero 4) [])) (c2 := 0) (c3 := 0) rfl hs (RdS.nil (τ := tT_Regex) (g := gg1))) ?_
  rintro wv6 ⟨gg2, v1, hlegg2, hRv1, hs⟩
  refine LV_nil rfl rfl ?_
  exact ⟨_, res3 Try.results17 (rv_cells (vs := ([Value.int .i64 ((T_Regex.mk 0 (Vec.zero 4) []).Kind)]) ++ ((((T_Regex.mk 0 (Vec.zero 4) []).Set).1.map (Value.int .u64)) ++ ([v1]))) ti54 rfl (by simp [((T_Regex.mk 0 (Vec.zero 4) []).Set).2]) (hs.cells (i := 0) rfl)) (rv_cell (v := Value.int .i64 px1) ti3 rfl (hs.cell (i := 1) (o := 0) rfl rfl)) (rv_cell (v := Value.int .i64 3) ti55 rfl (hs.cell (i := 2) (o := 0) rfl rfl)), gg2, ⟨_, _, _, rfl, ⟨([Value.int .i64 ((T_Regex.mk 0 (Vec.zero 4) []).Kind)]) ++ ((((T_Regex.mk 0 (Vec.zero 4) []).Set).1.map (Value.int .u64)) ++ ([v1])), rfl, (tT_Regex_iff.2 ⟨[Value.int .i64 ((T_Regex.mk 0 (Vec.zero 4) []).Kind)], ((T_Regex.mk 0 (Vec.zero 4) []).Set).1.map (Value.int .u64), [v1], rfl, rfl, rfl, ⟨_, rfl, hRv1⟩⟩)⟩, ⟨[Value.int .i64 px1], rfl, rfl⟩, ⟨[Value.int .i64 3], rfl, rfl⟩⟩, hs.ext⟩

set_option maxRecDepth 100000 in
theorem lexrepair_closable_ok {spec1 : T_LexSpec} {d1 : T_TokenDef} {s1 : Str} {r : Bool} (hM : M.lexrepair_closable spec1 d1 s1 = some r) {g0 : Hp} {w0 : World} (hi : Imm g0 w0) {cs1 : List Value} (hcs1 : tT_LexSpec.rel g0 cs1 spec1) {cs2 : List Value} (hcs2 : tT_TokenDef.rel g0 cs2 d1) :
    CallsV Try.prog 15 #[Value.agg cs1.toArray, Value.agg cs2.toArray, encS s1] w0 (fun v w' => ∃ g', (VRd tBool false g' v r) ∧ Ext g0 w0 g' w') := by
 unfold M.lexrepair_closable at hM
 obtain ⟨cs3, cs4, cs5, cs6, rfl, hcs3, hcs4, hcs5, hcs6⟩ := hcs1
 obtain ⟨v1, rfl, hRv1⟩ := hcs3
 have hcs4 : cs4 = _ := hcs4; subst hcs4
 have hcs5 : cs5 = _ := hcs5; subst hcs5
 have hcs6 : cs6 = _ := hcs6; subst hcs6
 obtain ⟨cs7, cs8, cs9, cs10, cs11, rfl, hcs7, hcs8, hcs9, hcs10, hcs11⟩ := hcs2
 have hcs7 : cs7 = _ := hcs7; subst hcs7
 have hcs8 : cs8 = _ := hcs8; subst hcs8
 have hcs9 : cs9 = _ := hcs9; subst hcs9
 have hcs10 : cs10 = _ := hcs10; subst hcs10
 have hcs11 : cs11 = _ := hcs11; subst hcs11
 have hs := Sep.start hi
 refine calls_of_WP (args := [Value.agg (List.toArray (α := Value) [v1, Value.bool spec1.Layout, Value.int .i64 spec1.Misspelling, Value.int .i64 spec1.Unclosed]), Value.agg (List.toArray (α := Value) [encS d1.Name, Value.int .i64 d1.Kind, encS d1.Pattern, encS d1.Sample, encS d1.Close]), encS s1]) Try.func15 rfl Try.ntmps15 rfl ?_
 have hds : (argEnv [Value.agg (List.toArray (α := Value) [v1, Value.bool spec1.Layout, Value.int .i64 spec1.Misspelling, Value.int .i64 spec1.Unclosed]), Value.agg (List.toArray (α := Value) [encS d1.Name, Value.int .i64 d1.Kind, encS d1.Pattern, encS d1.Sample, encS d1.Close]), encS s1]).ds = [] := rfl
 refine WP_seq <| WP_region <| OW_box (v := Value.agg (List.toArray (α := Value) [v1, Value.bool spec1.Layout, Value.int .i64 spec1.Misspelling, Value.int .i64 spec1.Unclosed])) rfl hs (zs := [v1, Value.bool spec1.Layout, Value.int .i64 spec1.Misspelling, Value.int .i64 spec1.Unclosed]) rfl rfl ?_
 intro b1 wv1 hs
 refine OW_box (v := Value.agg (List.toArray (α := Value) [encS d1.Name, Value.int .i64 d1.Kind, encS d1.Pattern, encS d1.Sample, encS d1.Close])) rfl hs (zs := [encS d1.Name, Value.int .i64 d1.Kind, encS d1.Pattern, encS d1.Sample, encS d1.Close]) rfl rfl ?_
 intro b2 wv2 hs
 refine O (r_assign (v := Value.bool false) rfl) rfl <| OW_nil <| WP_seq ?_
 obtain ⟨xv1, hx1, hKhx1⟩ := bindS hM
 refine WP_cut (fun E w => E 2 = encS s1 ∧ E 4 = Value.pointer (some ⟨b2, 0, none⟩) ∧ E 22 = Value.bool xv1 ∧ E.ds = [] ∧ Go.Lx.Sep g0 w0 g0 w [Go.Lx.box b2 44 ([encS d1.Name, Value.int .i64 d1.Kind, encS d1.Pattern, encS d1.Sample, encS d1.Close])]) ?_ ?_
 ·have hM := hx1
  have hag0 := Hle.refl g0
  refine WP_region <| O (r_fieldAddr Try.underlying31 ti3 rfl rfl (by decide) rfl rfl) rfl <| O (r_load (v := Value.int .i64 spec1.Unclosed) ti3 rfl (hs.cell (i := 1) (o := 3) rfl rfl)) rfl <| O (r_leq rfl rfl) rfl <| O (r_move (v := Value.bool (decide (spec1.Unclosed ≤ 0))) rfl) rfl ?_
  rcases condS hM with ⟨hg3, hM⟩ | ⟨hg3, hM⟩
  ·refine OK rfl rfl rfl (by rw [hg3]; rfl) rfl <| OK rfl rfl rfl (by rw [hg3]; rfl) rfl <| OK rfl rfl rfl (by rw [hg3]; rfl) rfl <| O (r_pickT (v := Value.bool true) rfl hg3 rfl) rfl <| O (r_move (v := Value.bool true) rfl) rfl <| OK rfl rfl rfl rfl rfl <| OK rfl rfl rfl rfl rfl <| OK rfl rfl rfl rfl rfl <| O (r_pickT (v := Value.bool true) rfl rfl rfl) rfl <| OW_nil ?_
   obtain rfl := Option.some.inj hM
   exact ⟨rfl, rfl, rfl, hds, (hs.sub (.cons_cons _ (.cons _ .slnil)))⟩
  ·refine OG rfl rfl rfl (by rw [hg3]; rfl) (r_fieldAddr Try.underlying44 ti3 rfl rfl (by decide) rfl rfl) rfl <| OG rfl rfl rfl (by rw [hg3]; rfl) (r_load (v := Value.int .i64 d1.Kind) ti3 rfl (hs.cell (i := 0) (o := 1) rfl rfl)) rfl <| OG rfl rfl rfl (by rw [hg3]; rfl) (r_eql rfl rfl) rfl <| O (r_pickF (v := Value.bool (d1.Kind == 2)) rfl hg3 rfl) rfl <| O (r_move (v := Value.bool (d1.Kind == 2)) rfl) rfl ?_
   rcases condS hM with ⟨hg4, hM⟩ | ⟨hg4, hM⟩
   ·refine OK rfl rfl rfl (by rw [hg4]; rfl) rfl <| OK rfl rfl rfl (by rw [hg4]; rfl) rfl <| OK rfl rfl rfl (by rw [hg4]; rfl) rfl <| O (r_pickT (v := Value.bool true) rfl hg4 rfl) rfl <| OW_nil ?_
    obtain rfl := Option.some.inj hM
    exact ⟨rfl, rfl, rfl, hds, (hs.sub (.cons_cons _ (.cons _ .slnil)))⟩
   ·refine OG rfl rfl rfl (by rw [hg4]; rfl) (r_fieldAddr Try.underlying44 ti9 rfl rfl (by decide) rfl rfl) rfl <| OG rfl rfl rfl (by rw [hg4]; rfl) (r_load (v := encS d1.Close) ti9 rfl (hs.cell (i := 0) (o := 4) rfl rfl)) rfl <| OG rfl rfl rfl (by rw [hg4]; rfl) (r_eqlS rfl rfl) rfl <| O (r_pickF (v := Value.bool (d1.Close == [])) rfl hg4 rfl) rfl <| OW_nil ?_
    obtain rfl := Option.some.inj hM
    exact ⟨rfl, rfl, rfl, hds, (hs.sub (.cons_cons _ (.cons _ .slnil)))⟩
 ·clear hs
  rintro E w ⟨hE2, hE4, hE22, hds, hs⟩
  have hM := hKhx1
  obtain ⟨E, rfl⟩ := open3 (E := E) hE2 hE4 hE22
  rcases condS hM with ⟨hc1, hM⟩ | ⟨hc1, hM⟩
  ·refine WP_true rfl hc1 <| WP_seq <| WP_region <| O (r_assign (v := Value.bool false) rfl) rfl <| OW_nil <| WP_ret ?_
   obtain rfl := Option.some.inj hM
   refine FL_nil hds ?_
   exact ⟨_, res1 Try.results15 (rv_tmp (v := Value.bool false) rfl), g0, ⟨[Value.bool false], rfl, rfl⟩, hs.ext⟩
  ·refine WP_false rfl hc1 <| WP_skip <| WP_seq <| WP_region <| O (r_fieldAddr Try.underlying44 ti9 rfl rfl (by decide) rfl rfl) rfl <| O (r_load (v := encS d1.Pattern) ti9 rfl (hs.cell (i := 0) (o := 2) rfl rfl)) rfl ?_
   obtain ⟨rv1, hrv1, hM⟩ := bindS hM
   refine C [encS d1.Pattern] cf17 rfl (regex_Parse_ok hrv1 hs.imm) rfl ?_
   rintro v2 wv3 ⟨gg1, hvv2, hegg1⟩
   have hlegg1 := hegg1.le hs.imm
   replace hs := hs.call hegg1
   obtain ⟨v3, v4, v5, rfl, hvv3, hvv4, hvv5⟩ := hvv2
   obtain ⟨cs12, rfl, hcs12⟩ := hvv5
   have hcs12 : cs12 = _ := hcs12; subst hcs12
   obtain ⟨cs13, rfl, hcs13⟩ := hvv4
   have hcs13 : cs13 = _ := hcs13; subst hcs13
   obtain ⟨cs14, rfl, hcs14⟩ := hvv3
   obtain ⟨cs15, cs16, cs17, rfl, hcs15, hcs16, hcs17⟩ := tT_Regex_iff.1 hcs14
   have hcs15 : cs15 = _ := hcs15; subst hcs15
   have hcs16 : cs16 = _ := hcs16; subst hcs16
   obtain ⟨v6, rfl, hRv6⟩ := hcs17
   refine O (r_move (v := Value.tuple #[Value.agg (List.toArray (α := Value) (([Value.int .i64 rv1.1.Kind]) ++ ((rv1.1.Set.1.map (Value.int .u64)) ++ ([v6])))), Value.int .i64 rv1.2.1, Value.int .i64 rv1.2.2]) rfl) rfl <| O (r_extract (vs := [Value.agg (List.toArray (α := Value) (([Value.int .i64 rv1.1.Kind]) ++ ((rv1.1.Set.1.map (Value.int .u64)) ++ ([v6])))), Value.int .i64 rv1.2.1, Value.int .i64 rv1.2.2]) (v := Value.agg (List.toArray (α := Value) (([Value.int .i64 rv1.1.Kind]) ++ ((rv1.1.Set.1.map (Value.int .u64)) ++ ([v6]))))) rfl rfl) rfl <| O (r_extract (vs := [Value.agg (List.toArray (α := Value) (([Value.int .i64 rv1.1.Kind]) ++ ((rv1.1.Set.1.map (Value.int .u64)) ++ ([v6])))), Value.int .i64 rv1.2.1, Value.int .i64 rv1.2.2]) (v := Value.int .i64 rv1.2.1) rfl rfl) rfl ?_
   refine O (r_extract (vs := [Value.agg (List.toArray (α := Value) (([Value.int .i64 rv1.1.Kind]) ++ ((rv1.1.Set.1.map (Value.int .u64)) ++ ([v6])))), Value.int .i64 rv1.2.1, Value.int .i64 rv1.2.2]) (v := Value.int .i64 rv1.2.2) rfl rfl) rfl <| OW_alloc ti54 hs (zs := ([Value.int .i64 0]) ++ (((Vec.zero 4).1.map (Value.int .u64)) ++ ([Value.slice none 0 0]))) rfl rfl ?_
   intro b3 wv4 hs
   refine OW_storeAll ti54 hs (i := 0) rfl rfl (v := Value.agg (List.toArray (α := Value) (([Value.int .i64 rv1.1.Kind]) ++ ((rv1.1.Set.1.map (Value.int .u64)) ++ ([v6]))))) rfl (vs := ([Value.int .i64 rv1.1.Kind]) ++ ((rv1.1.Set.1.map (Value.int .u64)) ++ ([v6]))) rfl (one_append (one_cons rfl one_nil) (one_append vec_one (one_cons (by obtain ⟨_, _, h9⟩ := hRv6.shape; rw [h9]; rfl) one_nil))) (by simp [rv1.1.Set.2]) (by simp [rv1.1.Set.2, (Vec.zero 4).2]) ?_
   intro wv5 hs
   refine O (r_assign (v := Value.int .i64 rv1.2.1) rfl) rfl <| O (r_assign (v := Value.int .i64 rv1.2.2) rfl) rfl <| OW_nil ?_
   obtain ⟨rv3, hx2, hKhx2⟩ := bindS hM
   refine WP_cut (fun E w => ∃ (gg3 : Hp), E 6 = Value.bool rv3 ∧ E.ds = [] ∧ Hle gg1 gg3 ∧ Go.Lx.Sep g0 w0 gg3 w []) ?_ ?_
   ·have hM := hx2
    have hagg1 := Hle.refl gg1
    refine WP_region <| O (r_move (v := Value.int .i64 rv1.2.2) rfl) rfl <| O (r_eql rfl rfl) rfl <| O (r_move (v := Value.bool (rv1.2.2 == 0)) rfl) rfl ?_
    rcases condS hM with ⟨hg6, hM⟩ | ⟨hg6, hM⟩
    ·refine OG rfl rfl rfl (by rw [hg6]; rfl) (r_loadN (cs := ([Value.int .i64 rv1.1.Kind]) ++ ((rv1.1.Set.1.map (Value.int .u64)) ++ ([v6]))) ti54 rfl (by simp [rv1.1.Set.2]) (hs.cells (i := 0) rfl)) rfl <| OG rfl rfl rfl (by rw [hg6]; rfl) (r_move (v := encS s1) rfl) rfl <| OG rfl rfl rfl (by rw [hg6]; rfl) (r_fieldAddr Try.underlying44 ti9 rfl rfl (by decide) rfl rfl) rfl <| OG rfl rfl rfl (by rw [hg6]; rfl) (r_load (v := encS d1.Close) ti9 rfl (hs.cell (i := 1) (o := 4) rfl rfl)) rfl ?_
     obtain ⟨s3, hs3, hM⟩ := bindS hM
     refine OG rfl rfl rfl (by rw [hg6]; rfl) (r_catS rfl rfl hs3) rfl ?_
     obtain ⟨rv4, hrv4, hM⟩ := bindS hM
     refine CG rfl rfl rfl (by rw [hg6]; rfl) [Value.agg (List.toArray (α := Value) (([Value.int .i64 rv1.1.Kind]) ++ ((rv1.1.Set.1.map (Value.int .u64)) ++ ([v6])))), encS s3] cf18 rfl (regex_Match_ok hrv4 hs.imm (tT_Regex_iff.2 ⟨[Value.int .i64 rv1.1.Kind], rv1.1.Set.1.map (Value.int .u64), [v6], rfl, rfl, rfl, ⟨_, rfl, hRv6⟩⟩)) rfl ?_
     rintro v8 wv7 ⟨gg4, hvv8, hegg4⟩
     have hlegg4 := hegg4.le hs.imm
     replace hs := hs.call hegg4
     replace hagg1 := hagg1.trans hlegg4
     obtain ⟨cs19, rfl, hcs19⟩ := hvv8
     have hcs19 : cs19 = _ := hcs19; subst hcs19
     refine O (r_pickT (v := Value.bool rv4) rfl hg6 rfl) rfl <| O (r_assign (v := Value.bool rv4) rfl) rfl <| OW_nil ?_
     obtain rfl := Option.some.inj hM
     exact ⟨gg4, rfl, hds, hagg1, (hs.sub (.cons _ (.cons _ .slnil)))⟩
    ·refine OK rfl rfl rfl (by rw [hg6]; rfl) rfl <| OK rfl rfl rfl (by rw [hg6]; rfl) rfl <| OK rfl rfl rfl (by rw [hg6]; rfl) rfl <| OK rfl rfl rfl (by rw [hg6]; rfl) rfl <| OK rfl rfl rfl (by rw [hg6]; rfl) rfl <| OK rfl rfl rfl (by rw [hg6]; rfl) rfl <| O (r_pickF (v := Value.bool false) rfl hg6 rfl) rfl <| O (r_assign (v := Value.bool false) rfl) rfl <| OW_nil ?_
     obtain rfl := Option.some.inj hM
     exact ⟨gg1, rfl, hds, (Hle.refl _), (hs.sub (.cons _ (.cons _ .slnil)))⟩
   ·clear hs
    rintro E w ⟨gg3, hE6, hds, hlegg3, hs⟩
    have hM := hKhx2
    obtain ⟨E, rfl⟩ := open1 (E := E) hE6
    refine WP_ret ?_
    obtain rfl := Option.some.inj hM
    refine FL_nil hds ?_
    exact ⟨_, res1 Try.results15 (rv_tmp (v := Value.bool rv3) rfl), gg3, ⟨[Value.bool rv3], rfl, rfl⟩, hs.ext⟩

set_option maxRecDepth 100000 in
theorem lexrepair_Merge_1_ok {s1 : Str} {c1 : T_LexSpec} {r : Bool} (hM : M.lexrepair_Merge_1 s1 c1 = some r) {g0 : Hp} {w0 : World} (hi : Imm g0 w0) {b1 : Nat} {cs1 : List Value} (hBb1 : IBox 31 b1 cs1 g0) (hcs1 : tT_LexSpec.rel g0 cs1 c1) :
    CallsV Try.prog 14 #[encS s1, Value.pointer (some ⟨b1, 0, none⟩)] w0 (fun v w' => ∃ g', (VRd tBool false g' v r) ∧ Ext g0 w0 g' w') := by
 unfold M.lexrepair_Merge_1 at hM
 obtain ⟨cs2, cs3, cs4, cs5, rfl, hcs2, hcs3, hcs4, hcs5⟩ := hcs1
 obtain ⟨v1, rfl, hRv1⟩ := hcs2
 have hcs3 : cs3 = _ := hcs3; subst hcs3
 have hcs4 : cs4 = _ := hcs4; subst hcs4
 have hcs5 : cs5 = _ := hcs5; subst hcs5
 have hs := Sep.start hi
 refine calls_of_WP (args := [encS s1, Value.pointer (some ⟨b1, 0, none⟩)]) Try.func14 rfl Try.ntmps14 rfl ?_
 have hds : (argEnv [encS s1, Value.pointer (some ⟨b1, 0, none⟩)]).ds = [] := rfl
 refine WP_seq <| WP_region <| O (r_assign (v := Value.bool false) rfl) rfl <| OW_nil ?_
 obtain ⟨o3, hx1, hKhx1⟩ := stepS hM
 refine WP_cut (fun E w => ∃ u9 : Unit, o3 = .next u9 ∧ ∃ (gg7 : Hp), E.ds = [] ∧ Hle g0 gg7 ∧ Go.Lx.Sep g0 w0 gg7 w []) ?_ ?_
 ·have hM := hx1
  have hag0 := Hle.refl g0
  refine WP_seq <| WP_region <| O (r_fieldAddr Try.underlying31 ti29 rfl rfl (by decide) rfl rfl) rfl <| O (r_loadEl (o := 0) (cs := [v1]) ti29 rfl rfl (.inr rfl) (elemField (cs := [v1, Value.bool c1.Layout, Value.int .i64 c1.Misspelling, Value.int .i64 c1.Unclosed]) (hBb1.cells hs.imm) ([]) ([v1]) ([Value.bool c1.Layout, Value.int .i64 c1.Misspelling, Value.int .i64 c1.Unclosed]) rfl rfl) (v := v1) rfl) rfl ?_
  obtain ⟨a2, ca2, hva2⟩ := hRv1.shape
  refine O (r_lenSl (v := v1) Try.underlying29 rfl hva2) rfl <| O (r_move (v := Value.int .i64 0) rfl) rfl <| OW_nil <| WP_block <| WP_loop (fun (xv5 : Int) E w => ∃ (gg10 : Hp), E 0 = encS s1 ∧ E 1 = Value.pointer (some ⟨b1, 0, none⟩) ∧ E 7 = v1 ∧ E 8 = Value.int .i64 (c1.Defs.length : Int) ∧ E 9 = Value.int .i64 xv5 ∧ E.ds = [] ∧ Hle g0 gg10 ∧ Go.Lx.Sep g0 w0 gg10 w []) hM ⟨g0, rfl, rfl, rfl, rfl, rfl, hds, (Hle.refl _), hs⟩ ?_
  clear hs hM
  rintro xv5 o2 E w hM ⟨gg10, hE0, hE1, hE7, hE8, hE9, hds, hlegg10, hs⟩
  obtain ⟨E, rfl⟩ := open5 (E := E) hE0 hE1 hE7 hE8 hE9
  replace hBb1 := hBb1.mono hlegg10
  replace hRv1 := hRv1.mono hlegg10
  have hagg10 := Hle.refl gg10
  refine WP_seq <| WP_region <| O (r_lss rfl rfl) rfl <| OW_nil <| WP_seq ?_
  rcases condS hM with ⟨hc11, hM⟩ | ⟨hc11, hM⟩
  ·refine WP_true rfl hc11 <| WP_skip <| WP_seq <| WP_block <| WP_seq <| WP_region ?_
   obtain ⟨e6, he6, hM⟩ := bindS hM
   obtain ⟨b12, ob12, cb12, hvb12, cs41, hcs41, hcb12⟩ := hRv1.at he6
   obtain ⟨cs42, cs43, cs44, cs45, cs46, rfl, hcs42, hcs43, hcs44, hcs45, hcs46⟩ := hcs41
   have hcs42 : cs42 = _ := hcs42; subst hcs42
   have hcs43 : cs43 = _ := hcs43; subst hcs43
   have hcs44 : cs44 = _ := hcs44; subst hcs44
   have hcs45 : cs45 = _ := hcs45; subst hcs45
   have hcs46 : cs46 = _ := hcs46; subst hcs46
   refine O (r_idxSl Try.underlying29 ti44 (v := v1) rfl hvb12 rfl (idxL_some he6).1 (idxL_some he6).2.1) rfl <| O (r_loadEl (cs := [encS e6.Name, Value.int .i64 e6.Kind, encS e6.Pattern, encS e6.Sample, encS e6.Close]) ti44 rfl rfl (.inl rfl) (hcb12 _ hs.imm) (v := Value.agg (List.toArray (α := Value) [encS e6.Name, Value.int .i64 e6.Kind, encS e6.Pattern, encS e6.Sample, encS e6.Close])) rfl) rfl <| OW_alloc ti44 hs (zs := [encS [], Value.int .i64 0, encS [], encS [], encS []]) rfl rfl ?_
   intro b13 wv16 hs
   refine OW_storeAll ti44 hs (i := 0) rfl rfl (v := Value.agg (List.toArray (α := Value) [encS e6.Name, Value.int .i64 e6.Kind, encS e6.Pattern, encS e6.Sample, encS e6.Close])) rfl (vs := [encS e6.Name, Value.int .i64 e6.Kind, encS e6.Pattern, encS e6.Sample, encS e6.Close]) rfl (one_cons rfl (one_cons rfl (one_cons rfl (one_cons rfl (one_cons rfl one_nil))))) rfl rfl ?_
   intro wv17 hs
   refine OW_nil <| WP_seq <| WP_region <| O (r_loadEl (o := 0) (cs := [v1, Value.bool c1.Layout, Value.int .i64 c1.Misspelling, Value.int .i64 c1.Unclosed]) ti31 rfl rfl (.inl rfl) (hBb1.cells hs.imm) (v := Value.agg (List.toArray (α := Value) [v1, Value.bool c1.Layout, Value.int .i64 c1.Misspelling, Value.int .i64 c1.Unclosed])) rfl) rfl <| O (r_loadN (cs := [encS e6.Name, Value.int .i64 e6.Kind, encS e6.Pattern, encS e6.Sample, encS e6.Close]) ti44 rfl rfl (hs.cells (i := 0) rfl)) rfl <| O (r_move (v := encS s1) rfl) rfl ?_
   obtain ⟨rv6, hrv6, hM⟩ := bindS hM
   refine C [Value.agg (List.toArray (α := Value) [v1, Value.bool c1.Layout, Value.int .i64 c1.Misspelling, Value.int .i64 c1.Unclosed]), Value.agg (List.toArray (α := Value) [encS e6.Name, Value.int .i64 e6.Kind, encS e6.Pattern, encS e6.Sample, encS e6.Close]), encS s1] cf15 rfl (lexrepair_closable_ok hrv6 hs.imm (⟨[v1], [Value.bool c1.Layout], [Value.int .i64 c1.Misspelling], [Value.int .i64 c1.Unclosed], rfl, ⟨_, rfl, hRv1⟩, rfl, rfl, rfl⟩) (⟨[encS e6.Name], [Value.int .i64 e6.Kind], [encS e6.Pattern], [encS e6.Sample], [encS e6.Close], rfl, rfl, rfl, rfl, rfl, rfl⟩)) rfl ?_
   rintro v7 wv18 ⟨gg13, hvv7, hegg13⟩
   have hlegg13 := hegg13.le hs.imm
   replace hs := hs.call hegg13
   replace hlegg10 := hlegg10.trans hlegg13
   obtain ⟨cs47, rfl, hcs47⟩ := hvv7
   have hcs47 : cs47 = _ := hcs47; subst hcs47
   refine OW_nil ?_
   rcases condS hM with ⟨hc12, hM⟩ | ⟨hc12, hM⟩
   ·refine WP_true rfl hc12 <| WP_seq <| WP_region <| O (r_assign (v := Value.bool true) rfl) rfl <| OW_nil <| WP_ret ?_
    obtain rfl := Option.some.inj hM
    refine fun hr => ?_
    have hM := congrArg some hr
    obtain rfl := Option.some.inj hM
    have hM := hKhx1
    obtain rfl := Option.some.inj hM
    refine FL_nil hds ?_
    exact ⟨_, res1 Try.results14 (rv_tmp (v := Value.bool true) rfl), gg13, ⟨[Value.bool true], rfl, rfl⟩, hs.ext⟩
   ·refine WP_false rfl hc12 <| WP_skip <| WP_region ?_
    obtain ⟨t6, ht6, hM⟩ := bindS hM
    refine O (r_addM rfl rfl ht6) rfl <| O (r_move (v := Value.int .i64 t6) rfl) rfl <| OW_nil ?_
    obtain rfl := Option.some.inj hM
    exact ⟨gg13, rfl, rfl, rfl, rfl, rfl, hds, hlegg10, (hs.sub (.cons _ .slnil))⟩
  ·refine WP_false rfl hc11 <| WP_exit ?_
   obtain rfl := Option.some.inj hM
   refine fun hr => ?_
   have hM := congrArg some hr
   obtain rfl := Option.some.inj hM
   exact ⟨(), rfl, gg10, hds, hlegg10, hs⟩
 ·clear hs
  rintro E w ⟨_, rfl, gg7, hds, hlegg7, hs⟩
  have hM := hKhx1
  dsimp only [onStep] at hM
  refine WP_seq <| WP_region <| O (r_assign (v := Value.bool false) rfl) rfl <| OW_nil <| WP_ret ?_
  obtain rfl := Option.some.inj hM
  refine FL_nil hds ?_
  exact ⟨_, res1 Try.results14 (rv_tmp (v := Value.bool false) rfl), gg7, ⟨[Value.bool false], rfl, rfl⟩, hs.ext⟩

set_option maxRecDepth 100000 in
theorem lexer_Text_ok {l1 : (List T_Token)} {r : Str} (hM : M.lexer_Text l1 = some r) {g0 : Hp} {w0 : World} (hi : Imm g0 w0) {v1 : Value} (hRv1 : RdS tT_Token g0 v1 l1) :
    CallsV Try.prog 20 #[v1] w0 (fun v w' => ∃ g', (VRd tStr false g' v r) ∧ Ext g0 w0 g' w') := by
 unfold M.lexer_Text at hM
 have hs := Sep.start hi
 refine calls_of_WP (args := [v1]) Try.func20 rfl Try.ntmps20 rfl ?_
 have hds : (argEnv [v1]).ds = [] := rfl
 refine WP_seq <| WP_region <| O (r_assign (v := encS []) rfl) rfl <| OW_nil <| WP_seq <| WP_region <| O (r_assign (v := encS []) rfl) rfl <| OW_nil ?_
 obtain ⟨s7, hx1, hKhx1⟩ := bindS hM
 refine WP_cut (fun E w => E 3 = encS s7 ∧ E.ds = [] ∧ Go.Lx.Sep g0 w0 g0 w []) ?_ ?_
 ·have hM := hx1
  have hag0 := Hle.refl g0
  refine WP_seq <| WP_region <| O (r_move (v := v1) rfl) rfl ?_
  obtain ⟨a2, ca2, hva2⟩ := hRv1.shape
  refine O (r_lenSl (v := v1) Try.underlying27 rfl hva2) rfl <| O (r_move (v := Value.int .i64 0) rfl) rfl <| OW_nil <| WP_block <| WP_loop (fun (st9 : Str × Int) E w => match st9 with | (s10, xv5) => E 3 = encS s10 ∧ E 6 = v1 ∧ E 7 = Value.int .i64 (l1.length : Int) ∧ E 8 = Value.int .i64 xv5 ∧ E.ds = [] ∧ Go.Lx.Sep g0 w0 g0 w []) hM ⟨rfl, rfl, rfl, rfl, hds, hs⟩ ?_
  clear hs hM
  rintro ⟨s10, xv5⟩ o2 E w hM ⟨hE3, hE6, hE7, hE8, hds, hs⟩
  obtain ⟨E, rfl⟩ := open4 (E := E) hE3 hE6 hE7 hE8
  refine WP_seq <| WP_region <| O (r_lss rfl rfl) rfl <| OW_nil <| WP_seq ?_
  rcases condS hM with ⟨hc6, hM⟩ | ⟨hc6, hM⟩
  ·refine WP_true rfl hc6 <| WP_skip <| WP_seq <| WP_block <| WP_seq <| WP_region ?_
   obtain ⟨e6, he6, hM⟩ := bindS hM
   obtain ⟨b11, ob11, cb11, hvb11, cs26, hcs26, hcb11⟩ := hRv1.at he6
   obtain ⟨cs27, cs28, cs29, cs30, rfl, hcs27, hcs28, hcs29, hcs30⟩ := hcs26
   have hcs27 : cs27 = _ := hcs27; subst hcs27
   have hcs28 : cs28 = _ := hcs28; subst hcs28
   have hcs29 : cs29 = _ := hcs29; subst hcs29
   have hcs30 : cs30 = _ := hcs30; subst hcs30
   refine O (r_idxSl Try.underlying27 ti35 (v := v1) rfl hvb11 rfl (idxL_some he6).1 (idxL_some he6).2.1) rfl <| O (r_loadEl (cs := [Value.int .i64 e6.Kind, Value.int .i64 e6.At, encS e6.Text, Value.int .i64 e6.Look]) ti35 rfl rfl (.inl rfl) (hcb11 _ hs.imm) (v := Value.agg (List.toArray (α := Value) [Value.int .i64 e6.Kind, Value.int .i64 e6.At, encS e6.Text, Value.int .i64 e6.Look])) rfl) rfl <| OW_alloc ti35 hs (zs := [Value.int .i64 0, Value.int .i64 0, encS [], Value.int .i64 0]) rfl rfl ?_
   intro b12 wv11 hs
   refine OW_storeAll ti35 hs (i := 0) rfl rfl (v := Value.agg (List.toArray (α := Value) [Value.int .i64 e6.Kind, Value.int .i64 e6.At, encS e6.Text, Value.int .i64 e6.Look])) rfl (vs := [Value.int .i64 e6.Kind, Value.int .i64 e6.At, encS e6.Text, Value.int .i64 e6.Look]) rfl (one_cons rfl (one_cons rfl (one_cons rfl (one_cons rfl one_nil)))) rfl rfl ?_
   intro wv12 hs
   refine OW_nil <| WP_region <| O (r_move (v := encS s10) rfl) rfl <| O (r_fieldAddr Try.underlying35 ti9 rfl rfl (by decide) rfl rfl) rfl <| O (r_load (v := encS e6.Text) ti9 rfl (hs.cell (i := 0) (o := 2) rfl rfl)) rfl ?_
   obtain ⟨s13, hs13, hM⟩ := bindS hM
   refine O (r_catS rfl rfl hs13) rfl <| O (r_assign (v := encS s13) rfl) rfl <| OW_nil <| WP_region ?_
   obtain ⟨t6, ht6, hM⟩ := bindS hM
   refine O (r_addM rfl rfl ht6) rfl <| O (r_move (v := Value.int .i64 t6) rfl) rfl <| OW_nil ?_
   obtain rfl := Option.some.inj hM
   exact ⟨rfl, rfl, rfl, rfl, hds, (hs.sub (.cons _ .slnil))⟩
  ·refine WP_false rfl hc6 <| WP_exit ?_
   obtain rfl := Option.some.inj hM
   refine fun hr => ?_
   have hM := congrArg some hr
   obtain rfl := Option.some.inj hM
   exact ⟨rfl, hds, hs⟩
 ·clear hs
  rintro E w ⟨hE3, hds, hs⟩
  have hM := hKhx1
  obtain ⟨E, rfl⟩ := open1 (E := E) hE3
  refine WP_seq <| WP_region <| O (r_move (v := encS s7) rfl) rfl <| O (r_assign (v := encS s7) rfl) rfl <| OW_nil <| WP_ret ?_
  obtain rfl := Option.some.inj hM
  refine FL_nil hds ?_
  exact ⟨_, res1 Try.results20 (rv_tmp (v := encS s7) rfl), g0, ⟨[encS s7], rfl, rfl⟩, hs.ext⟩

set_option maxRecDepth 100000 in
theorem lexrepair_rest_ok {l1 : (List T_Token)} {r : Str × Int} (hM : M.lexrepair_rest l1 = some r) {g0 : Hp} {w0 : World} (hi : Imm g0 w0) {v1 : Value} (hRv1 : RdS tT_Token g0 v1 l1) :
    CallsV Try.prog 16 #[v1] w0 (fun v w' => ∃ g', (∃ v1 v2, v = .tuple #[v1, v2] ∧ VRd tStr false g' v1 r.1 ∧ VRd (tInt .i64) false g' v2 r.2) ∧ Ext g0 w0 g' w') := by
 unfold M.lexrepair_rest at hM
 have hs := Sep.start hi
 refine calls_of_WP (args := [v1]) Try.func16 rfl Try.ntmps16 rfl ?_
 have hds : (argEnv [v1]).ds = [] := rfl
 refine WP_seq <| WP_region <| O (r_assign (v := encS []) rfl) rfl <| O (r_assign (v := Value.int .i64 0) rfl) rfl <| OW_nil <| WP_seq <| WP_region <| O (r_move (v := v1) rfl) rfl ?_
 obtain ⟨rv1, hrv1, hM⟩ := bindS hM
 refine C [v1] cf20 rfl (lexer_Text_ok hrv1 hs.imm hRv1) rfl ?_
 rintro v2 wv1 ⟨gg1, hvv2, hegg1⟩
 have hlegg1 := hegg1.le hs.imm
 replace hs := hs.call hegg1
 replace hRv1 := hRv1.mono hlegg1
 obtain ⟨cs1, rfl, hcs1⟩ := hvv2
 have hcs1 : cs1 = _ := hcs1; subst hcs1
 obtain ⟨rv2, hrv2, hM⟩ := bindS hM
 refine C [encS rv1, encS [10]] cf19 rfl (strings_Cut_ok hrv2 hs.imm) rfl ?_
 rintro v3 wv2 ⟨gg2, hvv3, hegg2⟩
 have hlegg2 := hegg2.le hs.imm
 replace hs := hs.call hegg2
 replace hRv1 := hRv1.mono hlegg2
 obtain ⟨v4, v5, v6, rfl, hvv4, hvv5, hvv6⟩ := hvv3
 obtain ⟨cs2, rfl, hcs2⟩ := hvv6
 have hcs2 : cs2 = _ := hcs2; subst hcs2
 obtain ⟨cs3, rfl, hcs3⟩ := hvv5
 have hcs3 : cs3 = _ := hcs3; subst hcs3
 obtain ⟨cs4, rfl, hcs4⟩ := hvv4
 have hcs4 : cs4 = _ := hcs4; subst hcs4
 refine O (r_move (v := Value.tuple #[encS rv2.1, encS rv2.2.1, Value.bool rv2.2.2]) rfl) rfl <| O (r_extract (vs := [encS rv2.1, encS rv2.2.1, Value.bool rv2.2.2]) (v := encS rv2.1) rfl rfl) rfl <| O (r_extract (vs := [encS rv2.1, encS rv2.2.1, Value.bool rv2.2.2]) (v := encS rv2.2.1) rfl rfl) rfl <| O (r_extract (vs := [encS rv2.1, encS rv2.2.1, Value.bool rv2.2.2]) (v := Value.bool rv2.2.2) rfl rfl) rfl <| O (r_assign (v := encS rv2.1) rfl) rfl <| O (r_assign (v := encS rv2.2.1) rfl) rfl <| O (r_assign (v := Value.bool rv2.2.2) rfl) rfl <| OW_nil <| WP_seq <| WP_region <| O (r_assign (v := Value.int .i64 0) rfl) rfl <| OW_nil ?_
 obtain ⟨o3, hx1, hKhx1⟩ := stepS hM
 refine WP_cut (fun E w => ∃ u9 : Unit, o3 = .next u9 ∧ E 4 = encS rv2.1 ∧ E.ds = [] ∧ Go.Lx.Sep g0 w0 gg2 w []) ?_ ?_
 ·have hM := hx1
  have hagg2 := Hle.refl gg2
  refine WP_seq <| WP_region <| O (r_move (v := v1) rfl) rfl ?_
  obtain ⟨a2, ca2, hva2⟩ := hRv1.shape
  refine O (r_lenSl (v := v1) Try.underlying27 rfl hva2) rfl <| O (r_move (v := Value.int .i64 0) rfl) rfl <| OW_nil <| WP_block <| WP_loop (fun (st9 : Int × Int) E w => match st9 with | (size5, xv5) => E 4 = encS rv2.1 ∧ E 7 = Value.int .i64 size5 ∧ E 17 = v1 ∧ E 18 = Value.int .i64 (l1.length : Int) ∧ E 19 = Value.int .i64 xv5 ∧ E.ds = [] ∧ Go.Lx.Sep g0 w0 gg2 w []) hM ⟨rfl, rfl, rfl, rfl, rfl, hds, hs⟩ ?_
  clear hs hM
  rintro ⟨size5, xv5⟩ o2 E w hM ⟨hE4, hE7, hE17, hE18, hE19, hds, hs⟩
  obtain ⟨E, rfl⟩ := open5 (E := E) hE4 hE7 hE17 hE18 hE19
  refine WP_seq <| WP_region <| O (r_lss rfl rfl) rfl <| OW_nil <| WP_seq ?_
  rcases condS hM with ⟨hc11, hM⟩ | ⟨hc11, hM⟩
  ·refine WP_true rfl hc11 <| WP_skip <| WP_seq <| WP_block <| WP_seq <| WP_region <| O (r_move (v := Value.int .i64 xv5) rfl) rfl ?_
   obtain ⟨e6, he6, hM⟩ := bindS hM
   obtain ⟨b11, ob11, cb11, hvb11, cs30, hcs30, hcb11⟩ := hRv1.at he6
   obtain ⟨cs31, cs32, cs33, cs34, rfl, hcs31, hcs32, hcs33, hcs34⟩ := hcs30
   have hcs31 : cs31 = _ := hcs31; subst hcs31
   have hcs32 : cs32 = _ := hcs32; subst hcs32
   have hcs33 : cs33 = _ := hcs33; subst hcs33
   have hcs34 : cs34 = _ := hcs34; subst hcs34
   refine O (r_idxSl Try.underlying27 ti35 (v := v1) rfl hvb11 rfl (idxL_some he6).1 (idxL_some he6).2.1) rfl <| O (r_loadEl (cs := [Value.int .i64 e6.Kind, Value.int .i64 e6.At, encS e6.Text, Value.int .i64 e6.Look]) ti35 rfl rfl (.inl rfl) (hcb11 _ hs.imm) (v := Value.agg (List.toArray (α := Value) [Value.int .i64 e6.Kind, Value.int .i64 e6.At, encS e6.Text, Value.int .i64 e6.Look])) rfl) rfl <| OW_alloc ti35 hs (zs := [Value.int .i64 0, Value.int .i64 0, encS [], Value.int .i64 0]) rfl rfl ?_
   intro b12 wv13 hs
   refine O (r_assign (v := Value.int .i64 xv5) rfl) rfl <| OW_storeAll ti35 hs (i := 0) rfl rfl (v := Value.agg (List.toArray (α := Value) [Value.int .i64 e6.Kind, Value.int .i64 e6.At, encS e6.Text, Value.int .i64 e6.Look])) rfl (vs := [Value.int .i64 e6.Kind, Value.int .i64 e6.At, encS e6.Text, Value.int .i64 e6.Look]) rfl (one_cons rfl (one_cons rfl (one_cons rfl (one_cons rfl one_nil)))) rfl rfl ?_
   intro wv14 hs
   refine OW_nil <| WP_seq <| WP_region <| O (r_move (v := Value.int .i64 size5) rfl) rfl <| O (r_fieldAddr Try.underlying35 ti9 rfl rfl (by decide) rfl rfl) rfl <| O (r_load (v := encS e6.Text) ti9 rfl (hs.cell (i := 0) (o := 2) rfl rfl)) rfl <| O (r_lenStr Try.underlying9 rfl) rfl ?_
   obtain ⟨t16, ht16, hM⟩ := bindS hM
   refine O (r_addM rfl rfl ht16) rfl <| O (r_assign (v := Value.int .i64 t16) rfl) rfl <| OW_nil <| WP_seq <| WP_region <| O (r_move (v := Value.int .i64 t16) rfl) rfl <| O (r_move (v := encS rv2.1) rfl) rfl <| O (r_lenStr Try.underlying9 rfl) rfl <| O (r_eql rfl rfl) rfl <| OW_nil ?_
   rcases condS hM with ⟨hc12, hM⟩ | ⟨hc12, hM⟩
   ·refine WP_true rfl hc12 <| WP_seq <| WP_region <| O (r_move (v := encS rv2.1) rfl) rfl <| O (r_move (v := Value.int .i64 xv5) rfl) rfl ?_
    obtain ⟨t17, ht17, hM⟩ := bindS hM
    refine O (r_addM rfl rfl ht17) rfl <| O (r_assign (v := encS rv2.1) rfl) rfl <| O (r_assign (v := Value.int .i64 t17) rfl) rfl <| OW_nil <| WP_ret ?_
    obtain rfl := Option.some.inj hM
    refine fun hr => ?_
    have hM := congrArg some hr
    obtain rfl := Option.some.inj hM
    have hM := hKhx1
    obtain rfl := Option.some.inj hM
    refine FL_nil hds ?_
    exact ⟨_, res2 Try.results16 (rv_tmp (v := encS rv2.1) rfl) (rv_tmp (v := Value.int .i64 t17) rfl), gg2, ⟨_, _, rfl, ⟨[encS rv2.1], rfl, rfl⟩, ⟨[Value.int .i64 t17], rfl, rfl⟩⟩, hs.ext⟩
   ·refine WP_false rfl hc12 <| WP_skip <| WP_region ?_
    obtain ⟨t18, ht18, hM⟩ := bindS hM
    refine O (r_addM rfl rfl ht18) rfl <| O (r_move (v := Value.int .i64 t18) rfl) rfl <| OW_nil ?_
    obtain rfl := Option.some.inj hM
    exact ⟨rfl, rfl, rfl, rfl, rfl, hds, (hs.sub (.cons _ .slnil))⟩
  ·refine WP_false rfl hc11 <| WP_exit ?_
   obtain rfl := Option.some.inj hM
   refine fun hr => ?_
   have hM := congrArg some hr
   obtain rfl := Option.some.inj hM
   exact ⟨(), rfl, rfl, hds, hs⟩
 ·clear hs
  rintro E w ⟨_, rfl, hE4, hds, hs⟩
  have hM := hKhx1
  dsimp only [onStep] at hM
  obtain ⟨E, rfl⟩ := open1 (E := E) hE4
  refine WP_seq <| WP_region <| O (r_move (v := encS rv2.1) rfl) rfl <| O (r_assign (v := encS rv2.1) rfl) rfl <| O (r_assign (v := Value.int .i64 0) rfl) rfl <| OW_nil <| WP_ret ?_
  obtain rfl := Option.some.inj hM
  refine FL_nil hds ?_
  exact ⟨_, res2 Try.results16 (rv_tmp (v := encS rv2.1) rfl) (rv_tmp (v := Value.int .i64 0) rfl), gg2, ⟨_, _, rfl, ⟨[encS rv2.1], rfl, rfl⟩, ⟨[Value.int .i64 0], rfl, rfl⟩⟩, hs.ext⟩

set_option maxRecDepth 100000 in
theorem lexrepair_Merge_ok {p1 : T_LexSpec} {p2 : (List T_Token)} {r : (List T_Token)} (hM : M.lexrepair_Merge p1 p2 = some r) {g0 : Hp} {w0 : World} (hi : Imm g0 w0) {cs1 : List Value} (hcs1 : tT_LexSpec.rel g0 cs1 p1) {v1 : Value} (hRv1 : RdS tT_Token g0 v1 p2) :
    CallsV Try.prog 9 #[Value.agg cs1.toArray, v1] w0 (fun v w' => ∃ g' y0, (RowRel tT_Token g' y0 r) ∧ Sep g0 w0 g' w' [.row v 35 tT_Token.sz r.length y0]) := by
 unfold M.lexrepair_Merge at hM
 obtain ⟨cs2, cs3, cs4, cs5, rfl, hcs2, hcs3, hcs4, hcs5⟩ := hcs1
 obtain ⟨v2, rfl, hRv2⟩ := hcs2
 have hcs3 : cs3 = _ := hcs3; subst hcs3
 have hcs4 : cs4 = _ := hcs4; subst hcs4
 have hcs5 : cs5 = _ := hcs5; subst hcs5
 have hs := Sep.start hi
 refine calls_of_WP (args := [Value.agg (List.toArray (α := Value) [v2, Value.bool p1.Layout, Value.int .i64 p1.Misspelling, Value.int .i64 p1.Unclosed]), v1]) Try.func9 rfl Try.ntmps9 rfl ?_
 have hds : (argEnv [Value.agg (List.toArray (α := Value) [v2, Value.bool p1.Layout, Value.int .i64 p1.Misspelling, Value.int .i64 p1.Unclosed]), v1]).ds = [] := rfl
 refine WP_seq <| WP_region <| OW_box (v := Value.agg (List.toArray (α := Value) [v2, Value.bool p1.Layout, Value.int .i64 p1.Misspelling, Value.int .i64 p1.Unclosed])) rfl hs (zs := [v2, Value.bool p1.Layout, Value.int .i64 p1.Misspelling, Value.int .i64 p1.Unclosed]) rfl rfl ?_
 intro b1 wv1 hs
 refine O (r_assign (v := Value.slice none 0 0) rfl) rfl <| OW_nil <| WP_seq <| WP_region <| O (r_makeFunc (vs := [Value.pointer (some ⟨b1, 0, none⟩)]) rfl) rfl <| O (r_assign (v := Value.func (.func 14) #[] (List.toArray [Value.pointer (some ⟨b1, 0, none⟩)])) rfl) rfl <| OW_nil <| WP_seq <| WP_region <| O (r_assign (v := Value.slice none 0 0) rfl) rfl <| OW_nil ?_
 obtain ⟨xv49, hx10, hKhx10⟩ := bindS hM
 refine WP_cut (fun E w => ∃ (gg55 : Hp) (v56 : Value) (xs13 : List Value), E 6 = v56 ∧ E.ds = [] ∧ Hle g0 gg55 ∧ RowRel tT_Token gg55 xs13 xv49 ∧ Go.Lx.Sep g0 w0 gg55 w [.row v56 35 tT_Token.sz xv49.length xs13]) ?_ ?_
 ·have hM := hx10
  have hag0 := Hle.refl g0
  refine WP_block ?_
  have hs := hs.nilRow 35 tT_Token.sz
  refine WP_loop (fun (st9 : (List T_Token) × (List T_Token)) E w => match st9 with | (l17, xv66) => ∃ (gg74 : Hp) (v75 : Value) (xs18 : List Value) (v74 : Value), E 1 = v74 ∧ E 5 = Value.func (.func 14) #[] (List.toArray [Value.pointer (some ⟨b1, 0, none⟩)]) ∧ E 6 = v75 ∧ E.ds = [] ∧ Hle g0 gg74 ∧ RowRel tT_Token gg74 xs18 xv66 ∧ RdS tT_Token gg74 v74 l17 ∧ Go.Lx.Sep g0 w0 gg74 w [.row v75 35 tT_Token.sz xv66.length xs18, Go.Lx.box b1 31 ([v2, Value.bool p1.Layout, Value.int .i64 p1.Misspelling, Value.int .i64 p1.Unclosed])]) hM ⟨g0, (Value.slice none 0 0), [], v1, rfl, rfl, rfl, hds, (Hle.refl _), RowRel.nil, hRv1, hs⟩ ?_
  clear hs hM
  rintro ⟨l17, xv66⟩ o12 E w hM ⟨gg74, v75, xs18, v74, hE1, hE5, hE6, hds, hlegg74, hrelxs18, hRv74, hs⟩
  obtain ⟨E, rfl⟩ := open3 (E := E) hE1 hE5 hE6
  replace hRv2 := hRv2.mono hlegg74
  have hagg74 := Hle.refl gg74
  refine WP_seq <| WP_seq <| WP_region <| O (r_move (v := v74) rfl) rfl ?_
  obtain ⟨a16, ca16, hva16⟩ := hRv74.shape
  refine O (r_lenSl (v := v74) Try.underlying27 rfl hva16) rfl <| O (r_gtr rfl rfl) rfl <| OW_nil ?_
  rcases condS hM with ⟨hc56, hM⟩ | ⟨hc56, hM⟩
  ·refine WP_true rfl hc56 <| WP_skip <| WP_block <| WP_seq <| WP_region <| O (r_move (v := v74) rfl) rfl ?_
   obtain ⟨e36, he36, hM⟩ := bindS hM
   obtain ⟨b72, ob72, cb72, hvb72, cs221, hcs221, hcb72⟩ := hRv74.at he36
   obtain ⟨cs222, cs223, cs224, cs225, rfl, hcs222, hcs223, hcs224, hcs225⟩ := hcs221
   have hcs222 : cs222 = _ := hcs222; subst hcs222
   have hcs223 : cs223 = _ := hcs223; subst hcs223
   have hcs224 : cs224 = _ := hcs224; subst hcs224
   have hcs225 : cs225 = _ := hcs225; subst hcs225
   refine O (r_idxSl Try.underlying27 ti35 (v := v74) rfl hvb72 rfl (idxL_some he36).1 (idxL_some he36).2.1) rfl <| O (r_loadEl (cs := [Value.int .i64 e36.Kind, Value.int .i64 e36.At, encS e36.Text, Value.int .i64 e36.Look]) ti35 rfl rfl (.inl rfl) (hcb72 _ hs.imm) (v := Value.agg (List.toArray (α := Value) [Value.int .i64 e36.Kind, Value.int .i64 e36.At, encS e36.Text, Value.int .i64 e36.Look])) rfl) rfl <| OW_alloc ti35 hs (zs := [Value.int .i64 0, Value.int .i64 0, encS [], Value.int .i64 0]) rfl rfl ?_
   intro b73 wv152 hs
   refine OW_storeAll ti35 hs (i := 0) rfl rfl (v := Value.agg (List.toArray (α := Value) [Value.int .i64 e36.Kind, Value.int .i64 e36.At, encS e36.Text, Value.int .i64 e36.Look])) rfl (vs := [Value.int .i64 e36.Kind, Value.int .i64 e36.At, encS e36.Text, Value.int .i64 e36.Look]) rfl (one_cons rfl (one_cons rfl (one_cons rfl (one_cons rfl one_nil)))) rfl rfl ?_
   intro wv153 hs
   refine OW_nil <| WP_seq <| WP_region <| O (r_assign (v := Value.int .i64 1) rfl) rfl <| OW_nil ?_
   obtain ⟨⟨xv89, xv90, xv91⟩, hx18, hKhx18⟩ := bindS hM
   refine WP_cut (fun E w => ∃ (gg101 : Hp) (v100 : Value) (xs23 : List Value), E 1 = v74 ∧ E 5 = Value.func (.func 14) #[] (List.toArray [Value.pointer (some ⟨b1, 0, none⟩)]) ∧ E 6 = v100 ∧ E 7 = Value.pointer (some ⟨b73, 0, none⟩) ∧ E 8 = Value.int .i64 xv91 ∧ E.ds = [] ∧ Hle gg74 gg101 ∧ RowRel tT_Token gg101 xs23 xv66 ∧ Go.Lx.Sep g0 w0 gg101 w [Go.Lx.box b73 35 ([Value.int .i64 e36.Kind, Value.int .i64 e36.At, encS xv89, Value.int .i64 xv90]), .row v100 35 tT_Token.sz xv66.length xs23, Go.Lx.box b1 31 ([v2, Value.bool p1.Layout, Value.int .i64 p1.Misspelling, Value.int .i64 p1.Unclosed])]) ?_ ?_
   ·have hM := hx18
    refine WP_seq <| WP_region <| O (r_fieldAddr Try.underlying35 ti3 rfl rfl (by decide) rfl rfl) rfl <| O (r_load (v := Value.int .i64 e36.Kind) ti3 rfl (hs.cell (i := 0) (o := 0) rfl rfl)) rfl <| O (r_eql rfl rfl) rfl <| OW_nil ?_
    rcases condS hM with ⟨hc62, hM⟩ | ⟨hc62, hM⟩
    ·refine WP_true rfl hc62 <| WP_seq <| WP_region <| O (r_move (v := v74) rfl) rfl ?_
     obtain ⟨rv45, hrv45, hM⟩ := bindS hM
     refine C [v74] cf16 rfl (lexrepair_rest_ok hrv45 hs.imm hRv74) rfl ?_
     rintro v101 wv167 ⟨gg102, hvv101, hegg102⟩
     have hlegg102 := hegg102.le hs.imm
     replace hs := hs.call hegg102
     replace hRv74 := hRv74.mono hlegg102
     replace hRv2 := hRv2.mono hlegg102
     replace hrelxs18 := hrelxs18.mono hlegg102
     replace hagg74 := hagg74.trans hlegg102
     obtain ⟨v102, v103, rfl, hvv102, hvv103⟩ := hvv101
     obtain ⟨cs245, rfl, hcs245⟩ := hvv103
     have hcs245 : cs245 = _ := hcs245; subst hcs245
     obtain ⟨cs246, rfl, hcs246⟩ := hvv102
     have hcs246 : cs246 = _ := hcs246; subst hcs246
     refine O (r_move (v := Value.tuple #[encS rv45.1, Value.int .i64 rv45.2]) rfl) rfl <| O (r_extract (vs := [encS rv45.1, Value.int .i64 rv45.2]) (v := encS rv45.1) rfl rfl) rfl <| O (r_extract (vs := [encS rv45.1, Value.int .i64 rv45.2]) (v := Value.int .i64 rv45.2) rfl rfl) rfl <| O (r_assign (v := encS rv45.1) rfl) rfl <| O (r_assign (v := Value.int .i64 rv45.2) rfl) rfl <| OW_nil ?_
     obtain ⟨rv47, hx19, hKhx19⟩ := bindS hM
     refine WP_cut (fun E w => ∃ (gg106 : Hp), E 1 = v74 ∧ E 5 = Value.func (.func 14) #[] (List.toArray [Value.pointer (some ⟨b1, 0, none⟩)]) ∧ E 6 = v75 ∧ E 7 = Value.pointer (some ⟨b73, 0, none⟩) ∧ E 8 = Value.int .i64 1 ∧ E 9 = encS rv45.1 ∧ E 10 = Value.int .i64 rv45.2 ∧ E 34 = Value.bool rv47 ∧ E.ds = [] ∧ Hle gg102 gg106 ∧ Go.Lx.Sep g0 w0 gg106 w [Go.Lx.box b73 35 ([Value.int .i64 e36.Kind, Value.int .i64 e36.At, encS e36.Text, Value.int .i64 e36.Look]), .row v75 35 tT_Token.sz xv66.length xs18, Go.Lx.box b1 31 ([v2, Value.bool p1.Layout, Value.int .i64 p1.Misspelling, Value.int .i64 p1.Unclosed])]) ?_ ?_
     ·have hM := hx19
      have hagg102 := Hle.refl gg102
      refine WP_region <| O (r_move (v := Value.int .i64 rv45.2) rfl) rfl <| O (r_gtr rfl rfl) rfl <| O (r_move (v := Value.bool (decide (0 < rv45.2))) rfl) rfl ?_
      rcases condS hM with ⟨hg24, hM⟩ | ⟨hg24, hM⟩
      ·refine OG rfl rfl rfl (by rw [hg24]; rfl) (r_move (v := Value.func (.func 14) #[] (List.toArray [Value.pointer (some ⟨b1, 0, none⟩)])) rfl) rfl <| OG rfl rfl rfl (by rw [hg24]; rfl) (r_move (v := encS rv45.1) rfl) rfl ?_
       have hsL24 := hs
       have hagg102L24 := hagg102
       obtain ⟨gg107, hlegg107, hBgg107, hs⟩ := hs.relBox (i := 2) rfl
       replace hRv2 := hRv2.mono hlegg107
       replace hagg102 := hagg102.trans hlegg107
       obtain ⟨rv48, hrv48, hM⟩ := bindS hM
       refine CVG rfl rfl rfl (by rw [hg24]; rfl) [encS rv45.1] [Value.pointer (some ⟨b1, 0, none⟩)] cf14 rfl rfl (lexrepair_Merge_1_ok hrv48 hs.imm hBgg107 (⟨[v2], [Value.bool p1.Layout], [Value.int .i64 p1.Misspelling], [Value.int .i64 p1.Unclosed], rfl, ⟨_, rfl, hRv2⟩, rfl, rfl, rfl⟩)) rfl ?_
       rintro v105 wv169 ⟨gg108, hvv105, hegg108⟩
       obtain ⟨gg109, hlegg109, hs⟩ := hsL24.lent hegg108
       replace hagg102 := hagg102L24.trans hlegg109
       obtain ⟨cs248, rfl, hcs248⟩ := hvv105
       have hcs248 : cs248 = _ := hcs248; subst hcs248
       refine O (r_pickT (v := Value.bool rv48) rfl hg24 rfl) rfl <| OW_nil ?_
       obtain rfl := Option.some.inj hM
       exact ⟨gg109, rfl, rfl, rfl, rfl, rfl, rfl, rfl, rfl, hds, hagg102, hs⟩
      ·refine OK rfl rfl rfl (by rw [hg24]; rfl) rfl <| OK rfl rfl rfl (by rw [hg24]; rfl) rfl <| OK rfl rfl rfl (by rw [hg24]; rfl) rfl <| O (r_pickF (v := Value.bool false) rfl hg24 rfl) rfl <| OW_nil ?_
       obtain rfl := Option.some.inj hM
       exact ⟨gg102, rfl, rfl, rfl, rfl, rfl, rfl, rfl, rfl, hds, (Hle.refl _), hs⟩
     ·clear hs
      rintro E w ⟨gg106, hE1, hE5, hE6, hE7, hE8, hE9, hE10, hE34, hds, hlegg106, hs⟩
      have hM := hKhx19
      obtain ⟨E, rfl⟩ := open8 (E := E) hE1 hE5 hE6 hE7 hE8 hE9 hE10 hE34
      replace hRv74 := hRv74.mono hlegg106
      replace hrelxs18 := hrelxs18.mono hlegg106
      replace hagg74 := hagg74.trans hlegg106
      rcases condS hM with ⟨hc63, hM⟩ | ⟨hc63, hM⟩
      ·refine WP_true rfl hc63 <| WP_seq <| WP_region <| O (r_move (v := encS rv45.1) rfl) rfl <| O (r_move (v := Value.int .i64 rv45.2) rfl) rfl <| O (r_fieldAddr Try.underlying35 ti9 rfl rfl (by decide) rfl rfl) rfl <| OW_store1 ti9 hs (i := 0) rfl rfl (v := encS rv45.1) rfl rfl (o := 2) (by simp) ?_
       intro wv170 hs
       refine O (r_assign (v := Value.int .i64 rv45.2) rfl) rfl <| OW_nil <| WP_seq <| WP_region <| O (r_move (v := v74) rfl) rfl <| O (r_move (v := Value.int .i64 rv45.2) rfl) rfl ?_
       obtain ⟨l23, hl23, hM⟩ := bindS hM
       obtain ⟨v106, hRv106, hrunv106⟩ := RdS.slice hRv74 hl23
       refine O (hrunv106 Try.underlying27 ti35 rfl Bnd.none (Bnd.some rfl)) rfl ?_
       obtain ⟨a18, ca18, hva18⟩ := hRv106.shape
       refine O (r_lenSl (v := v106) Try.underlying27 rfl hva18) rfl <| O (r_move (v := Value.int .i64 0) rfl) rfl <| OW_nil <| WP_block <| WP_loop (fun (st9 : Int × Int) E w => match st9 with | (xv94, xv95) => E 1 = v74 ∧ E 5 = Value.func (.func 14) #[] (List.toArray [Value.pointer (some ⟨b1, 0, none⟩)]) ∧ E 6 = v75 ∧ E 7 = Value.pointer (some ⟨b73, 0, none⟩) ∧ E 8 = Value.int .i64 rv45.2 ∧ E 40 = v106 ∧ E 41 = Value.int .i64 (l23.length : Int) ∧ E 42 = Value.int .i64 xv95 ∧ E.ds = [] ∧ Go.Lx.Sep g0 w0 gg106 w [Go.Lx.box b73 35 ([Value.int .i64 e36.Kind, Value.int .i64 e36.At, encS rv45.1, Value.int .i64 xv94]), .row v75 35 tT_Token.sz xv66.length xs18, Go.Lx.box b1 31 ([v2, Value.bool p1.Layout, Value.int .i64 p1.Misspelling, Value.int .i64 p1.Unclosed])]) hM ⟨rfl, rfl, rfl, rfl, rfl, rfl, rfl, rfl, hds, hs⟩ ?_
       clear hs hM
       rintro ⟨xv94, xv95⟩ o14 E w hM ⟨hE1, hE5, hE6, hE7, hE8, hE40, hE41, hE42, hds, hs⟩
       obtain ⟨E, rfl⟩ := open8 (E := E) hE1 hE5 hE6 hE7 hE8 hE40 hE41 hE42
       refine WP_seq <| WP_region <| O (r_lss rfl rfl) rfl <| OW_nil <| WP_seq ?_
       rcases condS hM with ⟨hc66, hM⟩ | ⟨hc66, hM⟩
       ·refine WP_true rfl hc66 <| WP_skip <| WP_seq <| WP_block <| WP_seq <| WP_region ?_
        obtain ⟨e42, he42, hM⟩ := bindS hM
        obtain ⟨b84, ob84, cb84, hvb84, cs259, hcs259, hcb84⟩ := hRv106.at he42
        obtain ⟨cs260, cs261, cs262, cs263, rfl, hcs260, hcs261, hcs262, hcs263⟩ := hcs259
        have hcs260 : cs260 = _ := hcs260; subst hcs260
        have hcs261 : cs261 = _ := hcs261; subst hcs261
        have hcs262 : cs262 = _ := hcs262; subst hcs262
        have hcs263 : cs263 = _ := hcs263; subst hcs263
        refine O (r_idxSl Try.underlying27 ti35 (v := v106) rfl hvb84 rfl (idxL_some he42).1 (idxL_some he42).2.1) rfl <| O (r_loadEl (cs := [Value.int .i64 e42.Kind, Value.int .i64 e42.At, encS e42.Text, Value.int .i64 e42.Look]) ti35 rfl rfl (.inl rfl) (hcb84 _ hs.imm) (v := Value.agg (List.toArray (α := Value) [Value.int .i64 e42.Kind, Value.int .i64 e42.At, encS e42.Text, Value.int .i64 e42.Look])) rfl) rfl <| OW_alloc ti35 hs (zs := [Value.int .i64 0, Value.int .i64 0, encS [], Value.int .i64 0]) rfl rfl ?_
        intro b85 wv177 hs
        refine OW_storeAll ti35 hs (i := 0) rfl rfl (v := Value.agg (List.toArray (α := Value) [Value.int .i64 e42.Kind, Value.int .i64 e42.At, encS e42.Text, Value.int .i64 e42.Look])) rfl (vs := [Value.int .i64 e42.Kind, Value.int .i64 e42.At, encS e42.Text, Value.int .i64 e42.Look]) rfl (one_cons rfl (one_cons rfl (one_cons rfl (one_cons rfl one_nil)))) rfl rfl ?_
        intro wv178 hs
        refine OW_nil <| WP_region <| O (r_fieldAddr Try.underlying35 ti3 rfl rfl (by decide) rfl rfl) rfl <| O (r_load (v := Value.int .i64 xv94) ti3 rfl (hs.cell (i := 1) (o := 3) rfl rfl)) rfl <| O (r_fieldAddr Try.underlying35 ti3 rfl rfl (by decide) rfl rfl) rfl <| O (r_load (v := Value.int .i64 e42.At) ti3 rfl (hs.cell (i := 0) (o := 1) rfl rfl)) rfl <| O (r_fieldAddr Try.underlying35 ti3 rfl rfl (by decide) rfl rfl) rfl <| O (r_load (v := Value.int .i64 e42.Look) ti3 rfl (hs.cell (i := 0) (o := 3) rfl rfl)) rfl ?_
        obtain ⟨t106, ht106, hM⟩ := bindS hM
        refine O (r_addM rfl rfl ht106) rfl <| O (r_fieldAddr Try.underlying35 ti3 rfl rfl (by decide) rfl rfl) rfl <| O (r_load (v := Value.int .i64 e36.At) ti3 rfl (hs.cell (i := 1) (o := 1) rfl rfl)) rfl ?_
        obtain ⟨t107, ht107, hM⟩ := bindS hM
        refine O (r_subM rfl rfl ht107) rfl <| O (r_max2 rfl rfl) rfl <| O (r_fieldAddr Try.underlying35 ti3 rfl rfl (by decide) rfl rfl) rfl <| OW_store1 ti3 hs (i := 1) rfl rfl (v := Value.int .i64 (max2 xv94 t107)) rfl rfl (o := 3) (by simp) ?_
        intro wv179 hs
        refine OW_nil <| WP_region ?_
        obtain ⟨t108, ht108, hM⟩ := bindS hM
        refine O (r_addM rfl rfl ht108) rfl <| O (r_move (v := Value.int .i64 t108) rfl) rfl <| OW_nil ?_
        obtain rfl := Option.some.inj hM
        exact ⟨rfl, rfl, rfl, rfl, rfl, rfl, rfl, rfl, hds, (hs.sub (.cons _ (.cons_cons _ (.cons_cons _ (.cons_cons _ .slnil)))))⟩
       ·refine WP_false rfl hc66 <| WP_exit ?_
        obtain rfl := Option.some.inj hM
        refine fun hr => ?_
        have hM := congrArg some hr
        simp only [Option.some.injEq, Prod.mk.injEq] at hM
        obtain ⟨rfl, rfl, rfl⟩ := hM
        exact ⟨gg106, v75, xs18, rfl, rfl, rfl, rfl, rfl, hds, hagg74, hrelxs18, hs⟩
      ·refine WP_false rfl hc63 <| WP_skip ?_
       simp only [Option.some.injEq, Prod.mk.injEq] at hM
       obtain ⟨rfl, rfl, rfl⟩ := hM
       exact ⟨gg106, v75, xs18, rfl, rfl, rfl, rfl, rfl, hds, hagg74, hrelxs18, hs⟩
    ·refine WP_false rfl hc62 <| WP_skip ?_
     simp only [Option.some.injEq, Prod.mk.injEq] at hM
     obtain ⟨rfl, rfl, rfl⟩ := hM
     exact ⟨gg74, v75, xs18, rfl, rfl, rfl, rfl, rfl, hds, (Hle.refl _), hrelxs18, hs⟩
   ·clear hs
    rintro E w ⟨gg101, v100, xs23, hE1, hE5, hE6, hE7, hE8, hds, hlegg101, hrelxs23, hs⟩
    have hM := hKhx18
    obtain ⟨E, rfl⟩ := open5 (E := E) hE1 hE5 hE6 hE7 hE8
    replace hRv74 := hRv74.mono hlegg101
    replace hlegg74 := hlegg74.trans hlegg101
    refine WP_seq <| WP_region <| O (r_move (v := v100) rfl) rfl <| O (r_loadN (cs := [Value.int .i64 e36.Kind, Value.int .i64 e36.At, encS xv89, Value.int .i64 xv90]) ti35 rfl rfl (hs.cells (i := 0) rfl)) rfl <| OW_lit (τ := tT_Token) [Value.agg (List.toArray (α := Value) [Value.int .i64 e36.Kind, Value.int .i64 e36.At, encS xv89, Value.int .i64 xv90])] [(T_Token.mk e36.Kind e36.At xv89 xv90)] Try.underlying27 ti35 (by decide) hs rfl rfl rfl ⟨⟨[Value.int .i64 e36.Kind], [Value.int .i64 e36.At], [encS xv89], [Value.int .i64 xv90], rfl, rfl, rfl, rfl, rfl⟩, trivial⟩ rfl ?_
    intro v107 wv180 xs24 hrelxs24 hs
    obtain ⟨y6, hy6, hM⟩ := bindS hM
    refine OW_append Try.underlying27 ti35 rfl (by decide) (by decide) hs (i := 2) rfl hrelxs23 (v := v100) rfl (u := v107) rfl (hs.rowSrc (i := 0) rfl) hrelxs24 hy6 rfl ?_
    intro v108 wv181 xs25 hrelxs25 hs
    refine O (r_assign (v := v108) rfl) rfl <| OW_nil <| WP_region <| O (r_move (v := v74) rfl) rfl <| O (r_move (v := Value.int .i64 xv91) rfl) rfl ?_
    obtain ⟨l24, hl24, hM⟩ := bindS hM
    obtain ⟨v109, hRv109, hrunv109⟩ := RdS.slice hRv74 hl24
    refine O (hrunv109 Try.underlying27 ti35 rfl (Bnd.some rfl) Bnd.none) rfl <| O (r_assign (v := v109) rfl) rfl <| OW_nil ?_
    obtain rfl := Option.some.inj hM
    exact ⟨gg101, v108, xs25, v109, rfl, rfl, rfl, hds, hlegg74, hrelxs25, hRv109, (hs.sub (.cons _ (.cons _ (.cons_cons _ (.cons_cons _ .slnil)))))⟩
  ·refine WP_false rfl hc56 <| WP_exit ?_
   obtain rfl := Option.some.inj hM
   refine fun hr => ?_
   have hM := congrArg some hr
   obtain rfl := Option.some.inj hM
   exact ⟨gg74, v75, xs18, rfl, hds, hlegg74, hrelxs18, (hs.sub (.cons_cons _ (.cons _ .slnil)))⟩
 ·clear hs
  rintro E w ⟨gg55, v56, xs13, hE6, hds, hlegg55, hrelxs13, hs⟩
  have hM := hKhx10
  obtain ⟨E, rfl⟩ := open1 (E := E) hE6
  refine WP_seq <| WP_region <| O (r_move (v := v56) rfl) rfl <| O (r_assign (v := v56) rfl) rfl <| OW_nil <| WP_ret ?_
  obtain rfl := Option.some.inj hM
  refine FL_nil hds ?_
  exact ⟨_, res1 Try.results9 (rv_tmp (v := v56) rfl), gg55, xs13, hrelxs13, hs⟩


end Go.Proofs.Ytjdmfabmacdpgaa
