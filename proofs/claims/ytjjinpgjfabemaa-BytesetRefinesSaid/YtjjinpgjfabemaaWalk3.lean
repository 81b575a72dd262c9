/- The walks: what each function does is what its model says. Printed by a program of my own. -/
import Derived.Test.YtjjinpgjfabemaaWalk2
set_option linter.unusedVariables false
namespace Go.Proofs.Ytjjinpgjfabemaa
open Go.Lx Go.RowKit
set_option maxRecDepth 100000 in
theorem law07_BytesetOperations_ok {a1 : (Vec 4)} {b1 : (Vec 4)} {r : Bool} (hM : M.law07_BytesetOperations a1 b1 = some r) {g0 : Hp} {w0 : World} (hi : Imm g0 w0) :
    CallsV Try.prog 6 #[encV .u64 a1, encV .u64 b1] w0 (fun v w' => ∃ g', (VRd tBool false g' v r) ∧ Ext g0 w0 g' w') := by
  unfold M.law07_BytesetOperations at hM
  have hs := Sep.start hi
  refine calls_of_WP (args := [encV .u64 a1, encV .u64 b1]) Try.func6 rfl Try.ntmps6 rfl ?_
  refine WP_seq ?_
  refine WP_region ?_
  refine OW_box (v := encV .u64 a1) rfl hs (zs := a1.1.map (.int .u64)) rfl rfl ?_
  intro b2 wv1 hs
  refine OW_box (v := encV .u64 b1) rfl hs (zs := b1.1.map (.int .u64)) rfl rfl ?_
  intro b3 wv2 hs
  refine O (r_assign (v := .bool false) rfl) rfl ?_
  refine OW_nil ?_
  obtain ⟨xv1, hx1, hKhx1⟩ := bindS hM
  refine WP_cut (fun E w => ∃ (gg10 : Hp), E 4 = .bool xv1 ∧ Hle g0 gg10 ∧ Go.Lx.Sep g0 w0 gg10 w []) ?_ ?_
  · have hM := hx1
    have hag0 := Hle.refl g0
    refine WP_any (.s 0 (.q 1 (.q 2 (.q 3 (.q 5 (.q 6 (.s 4 (.s 7 (.q 8 (.q 9 (.q 10 (.q 11 (.q 12 (.q 14 (.q 15 (.s 13 (.s 16 (.q 17 (.q 18 (.q 19 (.q 20 (.q 22 (.s 21 (.s 23 (.q 24 (.q 25 (.q 26 (.q 27 (.q 29 (.s 28 (.s 30 (.q 31 (.q 32 (.q 33 (.leaf))))))))))))))))))))))))))))))))))) (SS g0 w0 g0 [Go.Lx.box b3 25 (b1.1.map (.int .u64)), Go.Lx.box b2 25 (a1.1.map (.int .u64))]) mo (by decide +kernel) (fun _ _ _ h => h) ?_
    have hs := hs.drew
    have hS : SS g0 w0 g0 [Go.Lx.box b3 25 (b1.1.map (.int .u64)), Go.Lx.box b2 25 (a1.1.map (.int .u64))] _ := ⟨g0, Hle.refl _, hs⟩
    refine A1 rfl ?_
    obtain ⟨rv10, hrv10, hM⟩ := bindS hM
    refine C [] cf8 rfl (law07_awake_ok hrv10 hs.imm) rfl ?_
    rintro v10 wv12 ⟨gg11, hvv10, hegg11⟩
    have hlegg11 := hegg11.le hs.imm
    replace hs := hs.call hegg11
    replace hag0 := hag0.trans hlegg11
    obtain ⟨cs10, rfl, hcs10⟩ := hvv10
    have hcs10 : cs10 = _ := hcs10; subst hcs10
    refine OW_nil ?_
    have hS : SS g0 w0 g0 [Go.Lx.box b3 25 (b1.1.map (.int .u64)), Go.Lx.box b2 25 (a1.1.map (.int .u64))] _ := ⟨gg11, hag0, hs⟩
    refine ⟨hS, ?_⟩
    refine A rfl hS (fun w9 h9 => by obtain ⟨g9, hle9, hs⟩ := h9; exact r_move (v := .bool rv10) rfl) rfl ?_
    rcases condS hM with ⟨hg5, hM⟩ | ⟨hg5, hM⟩
    · refine AG rfl rfl rfl rfl (by rw [hg5]; rfl) hS (fun w9 h9 => by obtain ⟨g9, hle9, hs⟩ := h9; exact r_loadN (cs := a1.1.map (.int .u64)) ti25 rfl (by simp [a1.2]) (hs.cells (i := 1) rfl)) rfl ?_
      refine AG rfl rfl rfl rfl (by rw [hg5]; rfl) hS (fun w9 h9 => by obtain ⟨g9, hle9, hs⟩ := h9; exact r_loadN (cs := b1.1.map (.int .u64)) ti25 rfl (by simp [b1.2]) (hs.cells (i := 0) rfl)) rfl ?_
      refine AG rfl rfl rfl rfl (by rw [hg5]; rfl) hS (fun w9 h9 => by obtain ⟨g9, hle9, hs⟩ := h9; exact r_loadN (cs := a1.1.map (.int .u64)) ti25 rfl (by simp [a1.2]) (hs.cells (i := 1) rfl)) rfl ?_
      refine AG rfl rfl rfl rfl (by rw [hg5]; rfl) hS (fun w9 h9 => by obtain ⟨g9, hle9, hs⟩ := h9; exact r_loadN (cs := b1.1.map (.int .u64)) ti25 rfl (by simp [b1.2]) (hs.cells (i := 0) rfl)) rfl ?_
      refine A1 rfl ?_
      obtain ⟨rv11, hrv11, hM⟩ := bindS hM
      refine CG rfl rfl rfl (by rw [hg5]; rfl) [encV .u64 a1, encV .u64 b1] cf18 rfl (byteset_Union_ok hrv11 hs.imm) rfl ?_
      rintro v11 wv13 ⟨gg12, hvv11, hegg12⟩
      have hlegg12 := hegg12.le hs.imm
      replace hs := hs.call hegg12
      replace hag0 := hag0.trans hlegg12
      obtain ⟨cs11, rfl, hcs11⟩ := hvv11
      have hcs11 : cs11 = _ := hcs11; subst hcs11
      refine OW_nil ?_
      have hS : SS g0 w0 g0 [Go.Lx.box b3 25 (b1.1.map (.int .u64)), Go.Lx.box b2 25 (a1.1.map (.int .u64))] _ := ⟨gg12, hag0, hs⟩
      refine ⟨hS, ?_⟩
      refine A1 rfl ?_
      obtain ⟨rv12, hrv12, hM⟩ := bindS hM
      refine CG rfl rfl rfl (by rw [hg5]; rfl) [encV .u64 a1, encV .u64 b1] cf19 rfl (ref07_Union_ok hrv12 hs.imm) rfl ?_
      rintro v12 wv14 ⟨gg13, hvv12, hegg13⟩
      have hlegg13 := hegg13.le hs.imm
      replace hs := hs.call hegg13
      replace hag0 := hag0.trans hlegg13
      obtain ⟨cs12, rfl, hcs12⟩ := hvv12
      have hcs12 : cs12 = _ := hcs12; subst hcs12
      refine OW_nil ?_
      have hS : SS g0 w0 g0 [Go.Lx.box b3 25 (b1.1.map (.int .u64)), Go.Lx.box b2 25 (a1.1.map (.int .u64))] _ := ⟨gg13, hag0, hs⟩
      refine ⟨hS, ?_⟩
      refine AG rfl rfl rfl rfl (by rw [hg5]; rfl) hS (fun w9 h9 => by obtain ⟨g9, hle9, hs⟩ := h9; exact r_eqlV Try.underlying25 Try.underlying23 ti23 rfl rfl eg25) rfl ?_
      refine A rfl hS (fun w9 h9 => by obtain ⟨g9, hle9, hs⟩ := h9; exact r_pickT (v := .bool (rv11 == rv12)) rfl hg5 rfl) rfl ?_
      refine A rfl hS (fun w9 h9 => by obtain ⟨g9, hle9, hs⟩ := h9; exact r_move (v := .bool (rv11 == rv12)) rfl) rfl ?_
      rcases condS hM with ⟨hg6, hM⟩ | ⟨hg6, hM⟩
      · refine AG rfl rfl rfl rfl (by rw [hg6]; rfl) hS (fun w9 h9 => by obtain ⟨g9, hle9, hs⟩ := h9; exact r_loadN (cs := a1.1.map (.int .u64)) ti25 rfl (by simp [a1.2]) (hs.cells (i := 1) rfl)) rfl ?_
        refine AG rfl rfl rfl rfl (by rw [hg6]; rfl) hS (fun w9 h9 => by obtain ⟨g9, hle9, hs⟩ := h9; exact r_loadN (cs := b1.1.map (.int .u64)) ti25 rfl (by simp [b1.2]) (hs.cells (i := 0) rfl)) rfl ?_
        refine AG rfl rfl rfl rfl (by rw [hg6]; rfl) hS (fun w9 h9 => by obtain ⟨g9, hle9, hs⟩ := h9; exact r_loadN (cs := a1.1.map (.int .u64)) ti25 rfl (by simp [a1.2]) (hs.cells (i := 1) rfl)) rfl ?_
        refine AG rfl rfl rfl rfl (by rw [hg6]; rfl) hS (fun w9 h9 => by obtain ⟨g9, hle9, hs⟩ := h9; exact r_loadN (cs := b1.1.map (.int .u64)) ti25 rfl (by simp [b1.2]) (hs.cells (i := 0) rfl)) rfl ?_
        refine A1 rfl ?_
        obtain ⟨rv13, hrv13, hM⟩ := bindS hM
        refine CG rfl rfl rfl (by rw [hg6]; rfl) [encV .u64 a1, encV .u64 b1] cf20 rfl (byteset_Intersect_ok hrv13 hs.imm) rfl ?_
        rintro v13 wv15 ⟨gg14, hvv13, hegg14⟩
        have hlegg14 := hegg14.le hs.imm
        replace hs := hs.call hegg14
        replace hag0 := hag0.trans hlegg14
        obtain ⟨cs13, rfl, hcs13⟩ := hvv13
        have hcs13 : cs13 = _ := hcs13; subst hcs13
        refine OW_nil ?_
        have hS : SS g0 w0 g0 [Go.Lx.box b3 25 (b1.1.map (.int .u64)), Go.Lx.box b2 25 (a1.1.map (.int .u64))] _ := ⟨gg14, hag0, hs⟩
        refine ⟨hS, ?_⟩
        refine A1 rfl ?_
        obtain ⟨rv14, hrv14, hM⟩ := bindS hM
        refine CG rfl rfl rfl (by rw [hg6]; rfl) [encV .u64 a1, encV .u64 b1] cf21 rfl (ref07_Intersect_ok hrv14 hs.imm) rfl ?_
        rintro v14 wv16 ⟨gg15, hvv14, hegg15⟩
        have hlegg15 := hegg15.le hs.imm
        replace hs := hs.call hegg15
        replace hag0 := hag0.trans hlegg15
        obtain ⟨cs14, rfl, hcs14⟩ := hvv14
        have hcs14 : cs14 = _ := hcs14; subst hcs14
        refine OW_nil ?_
        have hS : SS g0 w0 g0 [Go.Lx.box b3 25 (b1.1.map (.int .u64)), Go.Lx.box b2 25 (a1.1.map (.int .u64))] _ := ⟨gg15, hag0, hs⟩
        refine ⟨hS, ?_⟩
        refine AG rfl rfl rfl rfl (by rw [hg6]; rfl) hS (fun w9 h9 => by obtain ⟨g9, hle9, hs⟩ := h9; exact r_eqlV Try.underlying25 Try.underlying23 ti23 rfl rfl eg25) rfl ?_
        refine A rfl hS (fun w9 h9 => by obtain ⟨g9, hle9, hs⟩ := h9; exact r_pickT (v := .bool (rv13 == rv14)) rfl hg6 rfl) rfl ?_
        refine A rfl hS (fun w9 h9 => by obtain ⟨g9, hle9, hs⟩ := h9; exact r_move (v := .bool (rv13 == rv14)) rfl) rfl ?_
        rcases condS hM with ⟨hg7, hM⟩ | ⟨hg7, hM⟩
        · refine AG rfl rfl rfl rfl (by rw [hg7]; rfl) hS (fun w9 h9 => by obtain ⟨g9, hle9, hs⟩ := h9; exact r_loadN (cs := a1.1.map (.int .u64)) ti25 rfl (by simp [a1.2]) (hs.cells (i := 1) rfl)) rfl ?_
          refine AG rfl rfl rfl rfl (by rw [hg7]; rfl) hS (fun w9 h9 => by obtain ⟨g9, hle9, hs⟩ := h9; exact r_loadN (cs := a1.1.map (.int .u64)) ti25 rfl (by simp [a1.2]) (hs.cells (i := 1) rfl)) rfl ?_
          refine A1 rfl ?_
          obtain ⟨rv15, hrv15, hM⟩ := bindS hM
          refine CG rfl rfl rfl (by rw [hg7]; rfl) [encV .u64 a1] cf22 rfl (byteset_Complement_ok hrv15 hs.imm) rfl ?_
          rintro v15 wv17 ⟨gg16, hvv15, hegg16⟩
          have hlegg16 := hegg16.le hs.imm
          replace hs := hs.call hegg16
          replace hag0 := hag0.trans hlegg16
          obtain ⟨cs15, rfl, hcs15⟩ := hvv15
          have hcs15 : cs15 = _ := hcs15; subst hcs15
          refine OW_nil ?_
          have hS : SS g0 w0 g0 [Go.Lx.box b3 25 (b1.1.map (.int .u64)), Go.Lx.box b2 25 (a1.1.map (.int .u64))] _ := ⟨gg16, hag0, hs⟩
          refine ⟨hS, ?_⟩
          refine A1 rfl ?_
          obtain ⟨rv16, hrv16, hM⟩ := bindS hM
          refine CG rfl rfl rfl (by rw [hg7]; rfl) [encV .u64 a1] cf23 rfl (ref07_Complement_ok hrv16 hs.imm) rfl ?_
          rintro v16 wv18 ⟨gg17, hvv16, hegg17⟩
          have hlegg17 := hegg17.le hs.imm
          replace hs := hs.call hegg17
          replace hag0 := hag0.trans hlegg17
          obtain ⟨cs16, rfl, hcs16⟩ := hvv16
          have hcs16 : cs16 = _ := hcs16; subst hcs16
          refine OW_nil ?_
          have hS : SS g0 w0 g0 [Go.Lx.box b3 25 (b1.1.map (.int .u64)), Go.Lx.box b2 25 (a1.1.map (.int .u64))] _ := ⟨gg17, hag0, hs⟩
          refine ⟨hS, ?_⟩
          refine AG rfl rfl rfl rfl (by rw [hg7]; rfl) hS (fun w9 h9 => by obtain ⟨g9, hle9, hs⟩ := h9; exact r_eqlV Try.underlying25 Try.underlying23 ti23 rfl rfl eg25) rfl ?_
          refine A rfl hS (fun w9 h9 => by obtain ⟨g9, hle9, hs⟩ := h9; exact r_pickT (v := .bool (rv15 == rv16)) rfl hg7 rfl) rfl ?_
          refine A rfl hS (fun w9 h9 => by obtain ⟨g9, hle9, hs⟩ := h9; exact r_move (v := .bool (rv15 == rv16)) rfl) rfl ?_
          rcases condS hM with ⟨hg8, hM⟩ | ⟨hg8, hM⟩
          · refine AG rfl rfl rfl rfl (by rw [hg8]; rfl) hS (fun w9 h9 => by obtain ⟨g9, hle9, hs⟩ := h9; exact r_loadN (cs := a1.1.map (.int .u64)) ti25 rfl (by simp [a1.2]) (hs.cells (i := 1) rfl)) rfl ?_
            refine AG rfl rfl rfl rfl (by rw [hg8]; rfl) hS (fun w9 h9 => by obtain ⟨g9, hle9, hs⟩ := h9; exact r_loadN (cs := a1.1.map (.int .u64)) ti25 rfl (by simp [a1.2]) (hs.cells (i := 1) rfl)) rfl ?_
            refine A1 rfl ?_
            obtain ⟨rv17, hrv17, hM⟩ := bindS hM
            refine CG rfl rfl rfl (by rw [hg8]; rfl) [encV .u64 a1] cf24 rfl (byteset_Len_ok hrv17 hs.imm) rfl ?_
            rintro v17 wv19 ⟨gg18, hvv17, hegg18⟩
            have hlegg18 := hegg18.le hs.imm
            replace hs := hs.call hegg18
            replace hag0 := hag0.trans hlegg18
            obtain ⟨cs17, rfl, hcs17⟩ := hvv17
            have hcs17 : cs17 = _ := hcs17; subst hcs17
            refine OW_nil ?_
            have hS : SS g0 w0 g0 [Go.Lx.box b3 25 (b1.1.map (.int .u64)), Go.Lx.box b2 25 (a1.1.map (.int .u64))] _ := ⟨gg18, hag0, hs⟩
            refine ⟨hS, ?_⟩
            refine A1 rfl ?_
            obtain ⟨rv18, hrv18, hM⟩ := bindS hM
            refine CG rfl rfl rfl (by rw [hg8]; rfl) [encV .u64 a1] cf25 rfl (ref07_Len_ok hrv18 hs.imm) rfl ?_
            rintro v18 wv20 ⟨gg19, hvv18, hegg19⟩
            have hlegg19 := hegg19.le hs.imm
            replace hs := hs.call hegg19
            replace hag0 := hag0.trans hlegg19
            obtain ⟨cs18, rfl, hcs18⟩ := hvv18
            have hcs18 : cs18 = _ := hcs18; subst hcs18
            refine OW_nil ?_
            have hS : SS g0 w0 g0 [Go.Lx.box b3 25 (b1.1.map (.int .u64)), Go.Lx.box b2 25 (a1.1.map (.int .u64))] _ := ⟨gg19, hag0, hs⟩
            refine ⟨hS, ?_⟩
            refine AG rfl rfl rfl rfl (by rw [hg8]; rfl) hS (fun w9 h9 => by obtain ⟨g9, hle9, hs⟩ := h9; exact r_eql rfl rfl) rfl ?_
            refine A rfl hS (fun w9 h9 => by obtain ⟨g9, hle9, hs⟩ := h9; exact r_pickT (v := .bool (rv17 == rv18)) rfl hg8 rfl) rfl ?_
            refine A rfl hS (fun w9 h9 => by obtain ⟨g9, hle9, hs⟩ := h9; exact r_assign (v := .bool (rv17 == rv18)) rfl) rfl ?_
            refine AN ?_
            obtain rfl := Option.some.inj hM
            exact ⟨gg19, rfl, hag0, (hs.sub (.cons _ (.cons _ .slnil)))⟩
          · refine AK rfl rfl rfl rfl (by rw [hg8]; rfl) hS rfl ?_
            refine AK rfl rfl rfl rfl (by rw [hg8]; rfl) hS rfl ?_
            refine A1 rfl ?_
            refine OK rfl rfl rfl (by rw [hg8]; rfl) rfl ?_
            refine OW_nil ⟨hS, ?_⟩
            refine A1 rfl ?_
            refine OK rfl rfl rfl (by rw [hg8]; rfl) rfl ?_
            refine OW_nil ⟨hS, ?_⟩
            refine AK rfl rfl rfl rfl (by rw [hg8]; rfl) hS rfl ?_
            refine A rfl hS (fun w9 h9 => by obtain ⟨g9, hle9, hs⟩ := h9; exact r_pickF (v := .bool false) rfl hg8 rfl) rfl ?_
            refine A rfl hS (fun w9 h9 => by obtain ⟨g9, hle9, hs⟩ := h9; exact r_assign (v := .bool false) rfl) rfl ?_
            refine AN ?_
            obtain rfl := Option.some.inj hM
            exact ⟨gg17, rfl, hag0, (hs.sub (.cons _ (.cons _ .slnil)))⟩
        · refine AK rfl rfl rfl rfl (by rw [hg7]; rfl) hS rfl ?_
          refine AK rfl rfl rfl rfl (by rw [hg7]; rfl) hS rfl ?_
          refine A1 rfl ?_
          refine OK rfl rfl rfl (by rw [hg7]; rfl) rfl ?_
          refine OW_nil ⟨hS, ?_⟩
          refine A1 rfl ?_
          refine OK rfl rfl rfl (by rw [hg7]; rfl) rfl ?_
          refine OW_nil ⟨hS, ?_⟩
          refine AK rfl rfl rfl rfl (by rw [hg7]; rfl) hS rfl ?_
          refine A rfl hS (fun w9 h9 => by obtain ⟨g9, hle9, hs⟩ := h9; exact r_pickF (v := .bool false) rfl hg7 rfl) rfl ?_
          refine A rfl hS (fun w9 h9 => by obtain ⟨g9, hle9, hs⟩ := h9; exact r_move (v := .bool false) rfl) rfl ?_
          refine AK rfl rfl rfl rfl rfl hS rfl ?_
          refine AK rfl rfl rfl rfl rfl hS rfl ?_
          refine A1 rfl ?_
          refine OK rfl rfl rfl rfl rfl ?_
          refine OW_nil ⟨hS, ?_⟩
          refine A1 rfl ?_
          refine OK rfl rfl rfl rfl rfl ?_
          refine OW_nil ⟨hS, ?_⟩
          refine AK rfl rfl rfl rfl rfl hS rfl ?_
          refine A rfl hS (fun w9 h9 => by obtain ⟨g9, hle9, hs⟩ := h9; exact r_pickF (v := .bool false) rfl rfl rfl) rfl ?_
          refine A rfl hS (fun w9 h9 => by obtain ⟨g9, hle9, hs⟩ := h9; exact r_assign (v := .bool false) rfl) rfl ?_
          refine AN ?_
          obtain rfl := Option.some.inj hM
          exact ⟨gg15, rfl, hag0, (hs.sub (.cons _ (.cons _ .slnil)))⟩
      · refine AK rfl rfl rfl rfl (by rw [hg6]; rfl) hS rfl ?_
        refine AK rfl rfl rfl rfl (by rw [hg6]; rfl) hS rfl ?_
        refine AK rfl rfl rfl rfl (by rw [hg6]; rfl) hS rfl ?_
        refine AK rfl rfl rfl rfl (by rw [hg6]; rfl) hS rfl ?_
        refine A1 rfl ?_
        refine OK rfl rfl rfl (by rw [hg6]; rfl) rfl ?_
        refine OW_nil ⟨hS, ?_⟩
        refine A1 rfl ?_
        refine OK rfl rfl rfl (by rw [hg6]; rfl) rfl ?_
        refine OW_nil ⟨hS, ?_⟩
        refine AK rfl rfl rfl rfl (by rw [hg6]; rfl) hS rfl ?_
        refine A rfl hS (fun w9 h9 => by obtain ⟨g9, hle9, hs⟩ := h9; exact r_pickF (v := .bool false) rfl hg6 rfl) rfl ?_
        refine A rfl hS (fun w9 h9 => by obtain ⟨g9, hle9, hs⟩ := h9; exact r_move (v := .bool false) rfl) rfl ?_
        refine AK rfl rfl rfl rfl rfl hS rfl ?_
        refine AK rfl rfl rfl rfl rfl hS rfl ?_
        refine A1 rfl ?_
        refine OK rfl rfl rfl rfl rfl ?_
        refine OW_nil ⟨hS, ?_⟩
        refine A1 rfl ?_
        refine OK rfl rfl rfl rfl rfl ?_
        refine OW_nil ⟨hS, ?_⟩
        refine AK rfl rfl rfl rfl rfl hS rfl ?_
        refine A rfl hS (fun w9 h9 => by obtain ⟨g9, hle9, hs⟩ := h9; exact r_pickF (v := .bool false) rfl rfl rfl) rfl ?_
        refine A rfl hS (fun w9 h9 => by obtain ⟨g9, hle9, hs⟩ := h9; exact r_move (v := .bool false) rfl) rfl ?_
        refine AK rfl rfl rfl rfl rfl hS rfl ?_
        refine AK rfl rfl rfl rfl rfl hS rfl ?_
        refine A1 rfl ?_
        refine OK rfl rfl rfl rfl rfl ?_
        refine OW_nil ⟨hS, ?_⟩
        refine A1 rfl ?_
        refine OK rfl rfl rfl rfl rfl ?_
        refine OW_nil ⟨hS, ?_⟩
        refine AK rfl rfl rfl rfl rfl hS rfl ?_
        refine A rfl hS (fun w9 h9 => by obtain ⟨g9, hle9, hs⟩ := h9; exact r_pickF (v := .bool false) rfl rfl rfl) rfl ?_
        refine A rfl hS (fun w9 h9 => by obtain ⟨g9, hle9, hs⟩ := h9; exact r_assign (v := .bool false) rfl) rfl ?_
        refine AN ?_
        obtain rfl := Option.some.inj hM
        exact ⟨gg13, rfl, hag0, (hs.sub (.cons _ (.cons _ .slnil)))⟩
    · refine AK rfl rfl rfl rfl (by rw [hg5]; rfl) hS rfl ?_
      refine AK rfl rfl rfl rfl (by rw [hg5]; rfl) hS rfl ?_
      refine AK rfl rfl rfl rfl (by rw [hg5]; rfl) hS rfl ?_
      refine AK rfl rfl rfl rfl (by rw [hg5]; rfl) hS rfl ?_
      refine A1 rfl ?_
      refine OK rfl rfl rfl (by rw [hg5]; rfl) rfl ?_
      refine OW_nil ⟨hS, ?_⟩
      refine A1 rfl ?_
      refine OK rfl rfl rfl (by rw [hg5]; rfl) rfl ?_
      refine OW_nil ⟨hS, ?_⟩
      refine AK rfl rfl rfl rfl (by rw [hg5]; rfl) hS rfl ?_
      refine A rfl hS (fun w9 h9 => by obtain ⟨g9, hle9, hs⟩ := h9; exact r_pickF (v := .bool false) rfl hg5 rfl) rfl ?_
      refine A rfl hS (fun w9 h9 => by obtain ⟨g9, hle9, hs⟩ := h9; exact r_move (v := .bool false) rfl) rfl ?_
      refine AK rfl rfl rfl rfl rfl hS rfl ?_
      refine AK rfl rfl rfl rfl rfl hS rfl ?_
      refine AK rfl rfl rfl rfl rfl hS rfl ?_
      refine AK rfl rfl rfl rfl rfl hS rfl ?_
      refine A1 rfl ?_
      refine OK rfl rfl rfl rfl rfl ?_
      refine OW_nil ⟨hS, ?_⟩
      refine A1 rfl ?_
      refine OK rfl rfl rfl rfl rfl ?_
      refine OW_nil ⟨hS, ?_⟩
      refine AK rfl rfl rfl rfl rfl hS rfl ?_
      refine A rfl hS (fun w9 h9 => by obtain ⟨g9, hle9, hs⟩ := h9; exact r_pickF (v := .bool false) rfl rfl rfl) rfl ?_
      refine A rfl hS (fun w9 h9 => by obtain ⟨g9, hle9, hs⟩ := h9; exact r_move (v := .bool false) rfl) rfl ?_
      refine AK rfl rfl rfl rfl rfl hS rfl ?_
      refine AK rfl rfl rfl rfl rfl hS rfl ?_
      refine A1 rfl ?_
      refine OK rfl rfl rfl rfl rfl ?_
      refine OW_nil ⟨hS, ?_⟩
      refine A1 rfl ?_
      refine OK rfl rfl rfl rfl rfl ?_
      refine OW_nil ⟨hS, ?_⟩
      refine AK rfl rfl rfl rfl rfl hS rfl ?_
      refine A rfl hS (fun w9 h9 => by obtain ⟨g9, hle9, hs⟩ := h9; exact r_pickF (v := .bool false) rfl rfl rfl) rfl ?_
      refine A rfl hS (fun w9 h9 => by obtain ⟨g9, hle9, hs⟩ := h9; exact r_move (v := .bool false) rfl) rfl ?_
      refine AK rfl rfl rfl rfl rfl hS rfl ?_
      refine AK rfl rfl rfl rfl rfl hS rfl ?_
      refine A1 rfl ?_
      refine OK rfl rfl rfl rfl rfl ?_
      refine OW_nil ⟨hS, ?_⟩
      refine A1 rfl ?_
      refine OK rfl rfl rfl rfl rfl ?_
      refine OW_nil ⟨hS, ?_⟩
      refine AK rfl rfl rfl rfl rfl hS rfl ?_
      refine A rfl hS (fun w9 h9 => by obtain ⟨g9, hle9, hs⟩ := h9; exact r_pickF (v := .bool false) rfl rfl rfl) rfl ?_
      refine A rfl hS (fun w9 h9 => by obtain ⟨g9, hle9, hs⟩ := h9; exact r_assign (v := .bool false) rfl) rfl ?_
      refine AN ?_
      obtain rfl := Option.some.inj hM
      exact ⟨gg11, rfl, hag0, (hs.sub (.cons _ (.cons _ .slnil)))⟩
  · clear hs
    rintro E w ⟨gg10, hE4, hlegg10, hs⟩
    have hM := hKhx1
    obtain ⟨E, rfl⟩ := open1 (E := E) hE4
    refine WP_ret ?_
    obtain rfl := Option.some.inj hM
    exact ⟨_, res1 Try.results6 (rv_tmp (v := .bool xv1) rfl), gg10, ⟨[.bool xv1], rfl, rfl⟩, hs.ext⟩

set_option maxRecDepth 100000 in
theorem law07_BytesetAlgebra_ok {p1 : (Vec 4)} {p2 : (Vec 4)} {p3 : (Vec 4)} {r : Bool} (hM : M.law07_BytesetAlgebra p1 p2 p3 = some r) {g0 : Hp} {w0 : World} (hi : Imm g0 w0) :
    CallsV Try.prog 7 #[encV .u64 p1, encV .u64 p2, encV .u64 p3] w0 (fun v w' => ∃ g', (VRd tBool false g' v r) ∧ Ext g0 w0 g' w') := by
  unfold M.law07_BytesetAlgebra at hM
  have hs := Sep.start hi
  refine calls_of_WP (args := [encV .u64 p1, encV .u64 p2, encV .u64 p3]) Try.func7 rfl Try.ntmps7 rfl ?_
  refine WP_seq ?_
  refine WP_region ?_
  refine OW_box (v := encV .u64 p1) rfl hs (zs := p1.1.map (.int .u64)) rfl rfl ?_
  intro b1 wv1 hs
  refine OW_box (v := encV .u64 p2) rfl hs (zs := p2.1.map (.int .u64)) rfl rfl ?_
  intro b2 wv2 hs
  refine OW_box (v := encV .u64 p3) rfl hs (zs := p3.1.map (.int .u64)) rfl rfl ?_
  intro b3 wv3 hs
  refine O (r_assign (v := .bool false) rfl) rfl ?_
  refine OW_nil ?_
  refine WP_seq ?_
  refine WP_region ?_
  refine O (r_loadN (cs := p1.1.map (.int .u64)) ti25 rfl (by simp [p1.2]) (hs.cells (i := 2) rfl)) rfl ?_
  obtain ⟨rv1, hrv1, hM⟩ := bindS hM
  refine C [encV .u64 p1] cf22 rfl (byteset_Complement_ok hrv1 hs.imm) rfl ?_
  rintro v1 wv4 ⟨gg1, hvv1, hegg1⟩
  have hlegg1 := hegg1.le hs.imm
  replace hs := hs.call hegg1
  obtain ⟨cs1, rfl, hcs1⟩ := hvv1
  have hcs1 : cs1 = _ := hcs1; subst hcs1
  refine OW_alloc ti25 hs (zs := (Vec.zero 4).1.map (.int .u64)) rfl rfl ?_
  intro b4 wv5 hs
  refine OW_storeAll ti25 hs (i := 0) rfl rfl (v := encV .u64 rv1) rfl (vs := rv1.1.map (.int .u64)) rfl vec_one (by simp [rv1.2]) (by simp [rv1.2, (Vec.zero 4).2]) ?_
  intro wv6 hs
  refine OW_nil ?_
  refine WP_seq ?_
  obtain ⟨xv1, hx1, hKhx1⟩ := bindS hM
  refine WP_cut (fun E w => ∃ (gg9 : Hp), E 3 = .pointer (some ⟨b1, 0, none⟩) ∧ E 4 = .pointer (some ⟨b2, 0, none⟩) ∧ E 5 = .pointer (some ⟨b3, 0, none⟩) ∧ E 7 = .pointer (some ⟨b4, 0, none⟩) ∧ E 37 = .bool xv1 ∧ Hle gg1 gg9 ∧ Go.Lx.Sep g0 w0 gg9 w [Go.Lx.box b4 25 (rv1.1.map (.int .u64)), Go.Lx.box b3 25 (p3.1.map (.int .u64)), Go.Lx.box b2 25 (p2.1.map (.int .u64)), Go.Lx.box b1 25 (p1.1.map (.int .u64))]) ?_ ?_
  · have hM := hx1
    have hagg1 := Hle.refl gg1
    refine WP_any (.q 0 (.q 2 (.s 1 (.q 3 (.q 4 (.q 5 (.q 7 (.s 6 (.s 8 (.q 9 (.q 10 (.q 11 (.q 12 (.q 13 (.q 14 (.s 15 (.s 16 (.q 17 (.q 18 (.q 19 (.q 20 (.q 21 (.s 22 (.s 23 (.q 24 (.q 25 (.leaf))))))))))))))))))))))))))) (SS g0 w0 gg1 [Go.Lx.box b4 25 (rv1.1.map (.int .u64)), Go.Lx.box b3 25 (p3.1.map (.int .u64)), Go.Lx.box b2 25 (p2.1.map (.int .u64)), Go.Lx.box b1 25 (p1.1.map (.int .u64))]) mo (by decide +kernel) (fun _ _ _ h => h) ?_
    have hs := hs.drew
    have hS : SS g0 w0 gg1 [Go.Lx.box b4 25 (rv1.1.map (.int .u64)), Go.Lx.box b3 25 (p3.1.map (.int .u64)), Go.Lx.box b2 25 (p2.1.map (.int .u64)), Go.Lx.box b1 25 (p1.1.map (.int .u64))] _ := ⟨gg1, Hle.refl _, hs⟩
    refine A rfl hS (fun w9 h9 => by obtain ⟨g9, hle9, hs⟩ := h9; exact r_loadN (cs := rv1.1.map (.int .u64)) ti25 rfl (by simp [rv1.2]) (hs.cells (i := 0) rfl)) rfl ?_
    refine A rfl hS (fun w9 h9 => by obtain ⟨g9, hle9, hs⟩ := h9; exact r_loadN (cs := p1.1.map (.int .u64)) ti25 rfl (by simp [p1.2]) (hs.cells (i := 3) rfl)) rfl ?_
    refine A1 rfl ?_
    obtain ⟨rv9, hrv9, hM⟩ := bindS hM
    refine C [encV .u64 rv1] cf22 rfl (byteset_Complement_ok hrv9 hs.imm) rfl ?_
    rintro v9 wv14 ⟨gg10, hvv9, hegg10⟩
    have hlegg10 := hegg10.le hs.imm
    replace hs := hs.call hegg10
    replace hagg1 := hagg1.trans hlegg10
    obtain ⟨cs9, rfl, hcs9⟩ := hvv9
    have hcs9 : cs9 = _ := hcs9; subst hcs9
    refine OW_nil ?_
    have hS : SS g0 w0 gg1 [Go.Lx.box b4 25 (rv1.1.map (.int .u64)), Go.Lx.box b3 25 (p3.1.map (.int .u64)), Go.Lx.box b2 25 (p2.1.map (.int .u64)), Go.Lx.box b1 25 (p1.1.map (.int .u64))] _ := ⟨gg10, hagg1, hs⟩
    refine ⟨hS, ?_⟩
    refine A rfl hS (fun w9 h9 => by obtain ⟨g9, hle9, hs⟩ := h9; exact r_neqV Try.underlying25 Try.underlying23 ti23 rfl rfl eg25) rfl ?_
    refine A rfl hS (fun w9 h9 => by obtain ⟨g9, hle9, hs⟩ := h9; exact r_move (v := .bool (rv9 != p1)) rfl) rfl ?_
    rcases condS hM with ⟨hg4, hM⟩ | ⟨hg4, hM⟩
    · refine AK rfl rfl rfl rfl (by rw [hg4]; rfl) hS rfl ?_
      refine AK rfl rfl rfl rfl (by rw [hg4]; rfl) hS rfl ?_
      refine A1 rfl ?_
      refine OK rfl rfl rfl (by rw [hg4]; rfl) rfl ?_
      refine OW_nil ⟨hS, ?_⟩
      refine A1 rfl ?_
      refine OK rfl rfl rfl (by rw [hg4]; rfl) rfl ?_
      refine OW_nil ⟨hS, ?_⟩
      refine AK rfl rfl rfl rfl (by rw [hg4]; rfl) hS rfl ?_
      refine AK rfl rfl rfl rfl (by rw [hg4]; rfl) hS rfl ?_
      refine A rfl hS (fun w9 h9 => by obtain ⟨g9, hle9, hs⟩ := h9; exact r_pickT (v := .bool true) rfl hg4 rfl) rfl ?_
      refine A rfl hS (fun w9 h9 => by obtain ⟨g9, hle9, hs⟩ := h9; exact r_move (v := .bool true) rfl) rfl ?_
      refine AK rfl rfl rfl rfl rfl hS rfl ?_
      refine AK rfl rfl rfl rfl rfl hS rfl ?_
      refine A1 rfl ?_
      refine OK rfl rfl rfl rfl rfl ?_
      refine OW_nil ⟨hS, ?_⟩
      refine A1 rfl ?_
      refine OK rfl rfl rfl rfl rfl ?_
      refine OW_nil ⟨hS, ?_⟩
      refine AK rfl rfl rfl rfl rfl hS rfl ?_
      refine A rfl hS (fun w9 h9 => by obtain ⟨g9, hle9, hs⟩ := h9; exact r_pickT (v := .bool true) rfl rfl rfl) rfl ?_
      refine A rfl hS (fun w9 h9 => by obtain ⟨g9, hle9, hs⟩ := h9; exact r_move (v := .bool true) rfl) rfl ?_
      refine AK rfl rfl rfl rfl rfl hS rfl ?_
      refine AK rfl rfl rfl rfl rfl hS rfl ?_
      refine A1 rfl ?_
      refine OK rfl rfl rfl rfl rfl ?_
      refine OW_nil ⟨hS, ?_⟩
      refine A1 rfl ?_
      refine OK rfl rfl rfl rfl rfl ?_
      refine OW_nil ⟨hS, ?_⟩
      refine AK rfl rfl rfl rfl rfl hS rfl ?_
      refine A rfl hS (fun w9 h9 => by obtain ⟨g9, hle9, hs⟩ := h9; exact r_pickT (v := .bool true) rfl rfl rfl) rfl ?_
      refine AN ?_
      obtain rfl := Option.some.inj hM
      exact ⟨gg10, rfl, rfl, rfl, rfl, rfl, hagg1, hs⟩
    · refine AG rfl rfl rfl rfl (by rw [hg4]; rfl) hS (fun w9 h9 => by obtain ⟨g9, hle9, hs⟩ := h9; exact r_loadN (cs := rv1.1.map (.int .u64)) ti25 rfl (by simp [rv1.2]) (hs.cells (i := 0) rfl)) rfl ?_
      refine AG rfl rfl rfl rfl (by rw [hg4]; rfl) hS (fun w9 h9 => by obtain ⟨g9, hle9, hs⟩ := h9; exact r_loadN (cs := p1.1.map (.int .u64)) ti25 rfl (by simp [p1.2]) (hs.cells (i := 3) rfl)) rfl ?_
      refine A1 rfl ?_
      obtain ⟨rv10, hrv10, hM⟩ := bindS hM
      refine CG rfl rfl rfl (by rw [hg4]; rfl) [encV .u64 rv1] cf24 rfl (byteset_Len_ok hrv10 hs.imm) rfl ?_
      rintro v10 wv15 ⟨gg11, hvv10, hegg11⟩
      have hlegg11 := hegg11.le hs.imm
      replace hs := hs.call hegg11
      replace hagg1 := hagg1.trans hlegg11
      obtain ⟨cs10, rfl, hcs10⟩ := hvv10
      have hcs10 : cs10 = _ := hcs10; subst hcs10
      refine OW_nil ?_
      have hS : SS g0 w0 gg1 [Go.Lx.box b4 25 (rv1.1.map (.int .u64)), Go.Lx.box b3 25 (p3.1.map (.int .u64)), Go.Lx.box b2 25 (p2.1.map (.int .u64)), Go.Lx.box b1 25 (p1.1.map (.int .u64))] _ := ⟨gg11, hagg1, hs⟩
      refine ⟨hS, ?_⟩
      refine A1 rfl ?_
      obtain ⟨rv11, hrv11, hM⟩ := bindS hM
      refine CG rfl rfl rfl (by rw [hg4]; rfl) [encV .u64 p1] cf24 rfl (byteset_Len_ok hrv11 hs.imm) rfl ?_
      rintro v11 wv16 ⟨gg12, hvv11, hegg12⟩
      have hlegg12 := hegg12.le hs.imm
      replace hs := hs.call hegg12
      replace hagg1 := hagg1.trans hlegg12
      obtain ⟨cs11, rfl, hcs11⟩ := hvv11
      have hcs11 : cs11 = _ := hcs11; subst hcs11
      refine OW_nil ?_
      have hS : SS g0 w0 gg1 [Go.Lx.box b4 25 (rv1.1.map (.int .u64)), Go.Lx.box b3 25 (p3.1.map (.int .u64)), Go.Lx.box b2 25 (p2.1.map (.int .u64)), Go.Lx.box b1 25 (p1.1.map (.int .u64))] _ := ⟨gg12, hagg1, hs⟩
      refine ⟨hS, ?_⟩
      obtain ⟨t2, ht2, hM⟩ := bindS hM
      refine AG rfl rfl rfl rfl (by rw [hg4]; rfl) hS (fun w9 h9 => by obtain ⟨g9, hle9, hs⟩ := h9; exact r_subM rfl rfl ht2) rfl ?_
      refine AG rfl rfl rfl rfl (by rw [hg4]; rfl) hS (fun w9 h9 => by obtain ⟨g9, hle9, hs⟩ := h9; exact r_neq rfl rfl) rfl ?_
      refine A rfl hS (fun w9 h9 => by obtain ⟨g9, hle9, hs⟩ := h9; exact r_pickF (v := .bool (rv10 != t2)) rfl hg4 rfl) rfl ?_
      refine A rfl hS (fun w9 h9 => by obtain ⟨g9, hle9, hs⟩ := h9; exact r_move (v := .bool (rv10 != t2)) rfl) rfl ?_
      rcases condS hM with ⟨hg5, hM⟩ | ⟨hg5, hM⟩
      · refine AK rfl rfl rfl rfl (by rw [hg5]; rfl) hS rfl ?_
        refine AK rfl rfl rfl rfl (by rw [hg5]; rfl) hS rfl ?_
        refine A1 rfl ?_
        refine OK rfl rfl rfl (by rw [hg5]; rfl) rfl ?_
        refine OW_nil ⟨hS, ?_⟩
        refine A1 rfl ?_
        refine OK rfl rfl rfl (by rw [hg5]; rfl) rfl ?_
        refine OW_nil ⟨hS, ?_⟩
        refine AK rfl rfl rfl rfl (by rw [hg5]; rfl) hS rfl ?_
        refine A rfl hS (fun w9 h9 => by obtain ⟨g9, hle9, hs⟩ := h9; exact r_pickT (v := .bool true) rfl hg5 rfl) rfl ?_
        refine A rfl hS (fun w9 h9 => by obtain ⟨g9, hle9, hs⟩ := h9; exact r_move (v := .bool true) rfl) rfl ?_
        refine AK rfl rfl rfl rfl rfl hS rfl ?_
        refine AK rfl rfl rfl rfl rfl hS rfl ?_
        refine A1 rfl ?_
        refine OK rfl rfl rfl rfl rfl ?_
        refine OW_nil ⟨hS, ?_⟩
        refine A1 rfl ?_
        refine OK rfl rfl rfl rfl rfl ?_
        refine OW_nil ⟨hS, ?_⟩
        refine AK rfl rfl rfl rfl rfl hS rfl ?_
        refine A rfl hS (fun w9 h9 => by obtain ⟨g9, hle9, hs⟩ := h9; exact r_pickT (v := .bool true) rfl rfl rfl) rfl ?_
        refine AN ?_
        obtain rfl := Option.some.inj hM
        exact ⟨gg12, rfl, rfl, rfl, rfl, rfl, hagg1, hs⟩
      · refine AG rfl rfl rfl rfl (by rw [hg5]; rfl) hS (fun w9 h9 => by obtain ⟨g9, hle9, hs⟩ := h9; exact r_loadN (cs := p1.1.map (.int .u64)) ti25 rfl (by simp [p1.2]) (hs.cells (i := 3) rfl)) rfl ?_
        refine AG rfl rfl rfl rfl (by rw [hg5]; rfl) hS (fun w9 h9 => by obtain ⟨g9, hle9, hs⟩ := h9; exact r_loadN (cs := rv1.1.map (.int .u64)) ti25 rfl (by simp [rv1.2]) (hs.cells (i := 0) rfl)) rfl ?_
        refine A1 rfl ?_
        obtain ⟨rv12, hrv12, hM⟩ := bindS hM
        refine CG rfl rfl rfl (by rw [hg5]; rfl) [encV .u64 p1, encV .u64 rv1] cf18 rfl (byteset_Union_ok hrv12 hs.imm) rfl ?_
        rintro v12 wv17 ⟨gg13, hvv12, hegg13⟩
        have hlegg13 := hegg13.le hs.imm
        replace hs := hs.call hegg13
        replace hagg1 := hagg1.trans hlegg13
        obtain ⟨cs12, rfl, hcs12⟩ := hvv12
        have hcs12 : cs12 = _ := hcs12; subst hcs12
        refine OW_nil ?_
        have hS : SS g0 w0 gg1 [Go.Lx.box b4 25 (rv1.1.map (.int .u64)), Go.Lx.box b3 25 (p3.1.map (.int .u64)), Go.Lx.box b2 25 (p2.1.map (.int .u64)), Go.Lx.box b1 25 (p1.1.map (.int .u64))] _ := ⟨gg13, hagg1, hs⟩
        refine ⟨hS, ?_⟩
        refine A1 rfl ?_
        obtain ⟨rv13, hrv13, hM⟩ := bindS hM
        refine CG rfl rfl rfl (by rw [hg5]; rfl) [.int .u8 0, .int .u8 255] cf10 rfl (byteset_Range_ok hrv13 hs.imm) rfl ?_
        rintro v13 wv18 ⟨gg14, hvv13, hegg14⟩
        have hlegg14 := hegg14.le hs.imm
        replace hs := hs.call hegg14
        replace hagg1 := hagg1.trans hlegg14
        obtain ⟨cs13, rfl, hcs13⟩ := hvv13
        have hcs13 : cs13 = _ := hcs13; subst hcs13
        refine OW_nil ?_
        have hS : SS g0 w0 gg1 [Go.Lx.box b4 25 (rv1.1.map (.int .u64)), Go.Lx.box b3 25 (p3.1.map (.int .u64)), Go.Lx.box b2 25 (p2.1.map (.int .u64)), Go.Lx.box b1 25 (p1.1.map (.int .u64))] _ := ⟨gg14, hagg1, hs⟩
        refine ⟨hS, ?_⟩
        refine AG rfl rfl rfl rfl (by rw [hg5]; rfl) hS (fun w9 h9 => by obtain ⟨g9, hle9, hs⟩ := h9; exact r_neqV Try.underlying25 Try.underlying23 ti23 rfl rfl eg25) rfl ?_
        refine A rfl hS (fun w9 h9 => by obtain ⟨g9, hle9, hs⟩ := h9; exact r_pickF (v := .bool (rv12 != rv13)) rfl hg5 rfl) rfl ?_
        refine A rfl hS (fun w9 h9 => by obtain ⟨g9, hle9, hs⟩ := h9; exact r_move (v := .bool (rv12 != rv13)) rfl) rfl ?_
        rcases condS hM with ⟨hg6, hM⟩ | ⟨hg6, hM⟩
        · refine AK rfl rfl rfl rfl (by rw [hg6]; rfl) hS rfl ?_
          refine AK rfl rfl rfl rfl (by rw [hg6]; rfl) hS rfl ?_
          refine A1 rfl ?_
          refine OK rfl rfl rfl (by rw [hg6]; rfl) rfl ?_
          refine OW_nil ⟨hS, ?_⟩
          refine A1 rfl ?_
          refine OK rfl rfl rfl (by rw [hg6]; rfl) rfl ?_
          refine OW_nil ⟨hS, ?_⟩
          refine AK rfl rfl rfl rfl (by rw [hg6]; rfl) hS rfl ?_
          refine A rfl hS (fun w9 h9 => by obtain ⟨g9, hle9, hs⟩ := h9; exact r_pickT (v := .bool true) rfl hg6 rfl) rfl ?_
          refine AN ?_
          obtain rfl := Option.some.inj hM
          exact ⟨gg14, rfl, rfl, rfl, rfl, rfl, hagg1, hs⟩
        · refine AG rfl rfl rfl rfl (by rw [hg6]; rfl) hS (fun w9 h9 => by obtain ⟨g9, hle9, hs⟩ := h9; exact r_loadN (cs := p1.1.map (.int .u64)) ti25 rfl (by simp [p1.2]) (hs.cells (i := 3) rfl)) rfl ?_
          refine AG rfl rfl rfl rfl (by rw [hg6]; rfl) hS (fun w9 h9 => by obtain ⟨g9, hle9, hs⟩ := h9; exact r_loadN (cs := rv1.1.map (.int .u64)) ti25 rfl (by simp [rv1.2]) (hs.cells (i := 0) rfl)) rfl ?_
          refine A1 rfl ?_
          obtain ⟨rv14, hrv14, hM⟩ := bindS hM
          refine CG rfl rfl rfl (by rw [hg6]; rfl) [encV .u64 p1, encV .u64 rv1] cf20 rfl (byteset_Intersect_ok hrv14 hs.imm) rfl ?_
          rintro v14 wv19 ⟨gg15, hvv14, hegg15⟩
          have hlegg15 := hegg15.le hs.imm
          replace hs := hs.call hegg15
          replace hagg1 := hagg1.trans hlegg15
          obtain ⟨cs14, rfl, hcs14⟩ := hvv14
          have hcs14 : cs14 = _ := hcs14; subst hcs14
          refine OW_nil ?_
          have hS : SS g0 w0 gg1 [Go.Lx.box b4 25 (rv1.1.map (.int .u64)), Go.Lx.box b3 25 (p3.1.map (.int .u64)), Go.Lx.box b2 25 (p2.1.map (.int .u64)), Go.Lx.box b1 25 (p1.1.map (.int .u64))] _ := ⟨gg15, hagg1, hs⟩
          refine ⟨hS, ?_⟩
          refine A1 rfl ?_
          obtain ⟨rv15, hrv15, hM⟩ := bindS hM
          refine CG rfl rfl rfl (by rw [hg6]; rfl) [encV .u64 rv14] cf24 rfl (byteset_Len_ok hrv15 hs.imm) rfl ?_
          rintro v15 wv20 ⟨gg16, hvv15, hegg16⟩
          have hlegg16 := hegg16.le hs.imm
          replace hs := hs.call hegg16
          replace hagg1 := hagg1.trans hlegg16
          obtain ⟨cs15, rfl, hcs15⟩ := hvv15
          have hcs15 : cs15 = _ := hcs15; subst hcs15
          refine OW_nil ?_
          have hS : SS g0 w0 gg1 [Go.Lx.box b4 25 (rv1.1.map (.int .u64)), Go.Lx.box b3 25 (p3.1.map (.int .u64)), Go.Lx.box b2 25 (p2.1.map (.int .u64)), Go.Lx.box b1 25 (p1.1.map (.int .u64))] _ := ⟨gg16, hagg1, hs⟩
          refine ⟨hS, ?_⟩
          refine AG rfl rfl rfl rfl (by rw [hg6]; rfl) hS (fun w9 h9 => by obtain ⟨g9, hle9, hs⟩ := h9; exact r_neq rfl rfl) rfl ?_
          refine A rfl hS (fun w9 h9 => by obtain ⟨g9, hle9, hs⟩ := h9; exact r_pickF (v := .bool (rv15 != 0)) rfl hg6 rfl) rfl ?_
          refine AN ?_
          obtain rfl := Option.some.inj hM
          exact ⟨gg16, rfl, rfl, rfl, rfl, rfl, hagg1, hs⟩
  · clear hs
    rintro E w ⟨gg9, hE3, hE4, hE5, hE7, hE37, hlegg9, hs⟩
    have hM := hKhx1
    obtain ⟨E, rfl⟩ := open1 (E := E) hE3
    obtain ⟨E, rfl⟩ := open1 (E := E) hE4
    obtain ⟨E, rfl⟩ := open1 (E := E) hE5
    obtain ⟨E, rfl⟩ := open1 (E := E) hE7
    obtain ⟨E, rfl⟩ := open1 (E := E) hE37
    rcases condS hM with ⟨hc1, hM⟩ | ⟨hc1, hM⟩
    · refine WP_true rfl hc1 ?_
      refine WP_seq ?_
      refine WP_region ?_
      refine O (r_assign (v := .bool false) rfl) rfl ?_
      refine OW_nil ?_
      refine WP_ret ?_
      obtain rfl := Option.some.inj hM
      exact ⟨_, res1 Try.results7 (rv_tmp (v := .bool false) rfl), gg9, ⟨[.bool false], rfl, rfl⟩, hs.ext⟩
    · refine WP_false rfl hc1 ?_
      refine WP_skip ?_
      refine WP_seq ?_
      refine WP_any (.q 0 (.q 1 (.q 4 (.q 5 (.s 2 (.s 3 (.s 6 (.s 7 (.q 8 (.q 9 (.leaf))))))))))) (SS g0 w0 gg9 [Go.Lx.box b4 25 (rv1.1.map (.int .u64)), Go.Lx.box b3 25 (p3.1.map (.int .u64)), Go.Lx.box b2 25 (p2.1.map (.int .u64)), Go.Lx.box b1 25 (p1.1.map (.int .u64))]) mo (by decide +kernel) (fun _ _ _ h => h) ?_
      have hs := hs.drew
      have hagg9 := Hle.refl gg9
      have hS : SS g0 w0 gg9 [Go.Lx.box b4 25 (rv1.1.map (.int .u64)), Go.Lx.box b3 25 (p3.1.map (.int .u64)), Go.Lx.box b2 25 (p2.1.map (.int .u64)), Go.Lx.box b1 25 (p1.1.map (.int .u64))] _ := ⟨gg9, Hle.refl _, hs⟩
      refine A rfl hS (fun w9 h9 => by obtain ⟨g9, hle9, hs⟩ := h9; exact r_loadN (cs := p1.1.map (.int .u64)) ti25 rfl (by simp [p1.2]) (hs.cells (i := 3) rfl)) rfl ?_
      refine A rfl hS (fun w9 h9 => by obtain ⟨g9, hle9, hs⟩ := h9; exact r_loadN (cs := p2.1.map (.int .u64)) ti25 rfl (by simp [p2.2]) (hs.cells (i := 2) rfl)) rfl ?_
      refine A rfl hS (fun w9 h9 => by obtain ⟨g9, hle9, hs⟩ := h9; exact r_loadN (cs := rv1.1.map (.int .u64)) ti25 rfl (by simp [rv1.2]) (hs.cells (i := 0) rfl)) rfl ?_
      refine A rfl hS (fun w9 h9 => by obtain ⟨g9, hle9, hs⟩ := h9; exact r_loadN (cs := p2.1.map (.int .u64)) ti25 rfl (by simp [p2.2]) (hs.cells (i := 2) rfl)) rfl ?_
      refine A1 rfl ?_
      obtain ⟨rv16, hrv16, hM⟩ := bindS hM
      refine C [encV .u64 p1, encV .u64 p2] cf18 rfl (byteset_Union_ok hrv16 hs.imm) rfl ?_
      rintro v16 wv21 ⟨gg17, hvv16, hegg17⟩
      have hlegg17 := hegg17.le hs.imm
      replace hs := hs.call hegg17
      replace hagg9 := hagg9.trans hlegg17
      obtain ⟨cs16, rfl, hcs16⟩ := hvv16
      have hcs16 : cs16 = _ := hcs16; subst hcs16
      refine OW_nil ?_
      have hS : SS g0 w0 gg9 [Go.Lx.box b4 25 (rv1.1.map (.int .u64)), Go.Lx.box b3 25 (p3.1.map (.int .u64)), Go.Lx.box b2 25 (p2.1.map (.int .u64)), Go.Lx.box b1 25 (p1.1.map (.int .u64))] _ := ⟨gg17, hagg9, hs⟩
      refine ⟨hS, ?_⟩
      refine A1 rfl ?_
      obtain ⟨rv17, hrv17, hM⟩ := bindS hM
      refine C [encV .u64 rv16] cf22 rfl (byteset_Complement_ok hrv17 hs.imm) rfl ?_
      rintro v17 wv22 ⟨gg18, hvv17, hegg18⟩
      have hlegg18 := hegg18.le hs.imm
      replace hs := hs.call hegg18
      replace hagg9 := hagg9.trans hlegg18
      obtain ⟨cs17, rfl, hcs17⟩ := hvv17
      have hcs17 : cs17 = _ := hcs17; subst hcs17
      refine OW_nil ?_
      have hS : SS g0 w0 gg9 [Go.Lx.box b4 25 (rv1.1.map (.int .u64)), Go.Lx.box b3 25 (p3.1.map (.int .u64)), Go.Lx.box b2 25 (p2.1.map (.int .u64)), Go.Lx.box b1 25 (p1.1.map (.int .u64))] _ := ⟨gg18, hagg9, hs⟩
      refine ⟨hS, ?_⟩
      refine A1 rfl ?_
      obtain ⟨rv18, hrv18, hM⟩ := bindS hM
      refine C [encV .u64 p2] cf22 rfl (byteset_Complement_ok hrv18 hs.imm) rfl ?_
      rintro v18 wv23 ⟨gg19, hvv18, hegg19⟩
      have hlegg19 := hegg19.le hs.imm
      replace hs := hs.call hegg19
      replace hagg9 := hagg9.trans hlegg19
      obtain ⟨cs18, rfl, hcs18⟩ := hvv18
      have hcs18 : cs18 = _ := hcs18; subst hcs18
      refine OW_nil ?_
      have hS : SS g0 w0 gg9 [Go.Lx.box b4 25 (rv1.1.map (.int .u64)), Go.Lx.box b3 25 (p3.1.map (.int .u64)), Go.Lx.box b2 25 (p2.1.map (.int .u64)), Go.Lx.box b1 25 (p1.1.map (.int .u64))] _ := ⟨gg19, hagg9, hs⟩
      refine ⟨hS, ?_⟩
      refine A1 rfl ?_
      obtain ⟨rv19, hrv19, hM⟩ := bindS hM
      refine C [encV .u64 rv1, encV .u64 rv18] cf20 rfl (byteset_Intersect_ok hrv19 hs.imm) rfl ?_
      rintro v19 wv24 ⟨gg20, hvv19, hegg20⟩
      have hlegg20 := hegg20.le hs.imm
      replace hs := hs.call hegg20
      replace hagg9 := hagg9.trans hlegg20
      obtain ⟨cs19, rfl, hcs19⟩ := hvv19
      have hcs19 : cs19 = _ := hcs19; subst hcs19
      refine OW_nil ?_
      have hS : SS g0 w0 gg9 [Go.Lx.box b4 25 (rv1.1.map (.int .u64)), Go.Lx.box b3 25 (p3.1.map (.int .u64)), Go.Lx.box b2 25 (p2.1.map (.int .u64)), Go.Lx.box b1 25 (p1.1.map (.int .u64))] _ := ⟨gg20, hagg9, hs⟩
      refine ⟨hS, ?_⟩
      refine A rfl hS (fun w9 h9 => by obtain ⟨g9, hle9, hs⟩ := h9; exact r_eqlV Try.underlying25 Try.underlying23 ti23 rfl rfl eg25) rfl ?_
      refine A rfl hS (fun w9 h9 => by obtain ⟨g9, hle9, hs⟩ := h9; exact r_assign (v := .bool (rv17 == rv19)) rfl) rfl ?_
      refine AN ?_
      refine WP_seq ?_
      refine WP_any (.q 0 (.q 1 (.q 2 (.q 5 (.q 6 (.q 8 (.q 9 (.s 3 (.s 4 (.s 7 (.s 10 (.s 11 (.q 12 (.q 13 (.leaf))))))))))))))) (SS g0 w0 gg20 [Go.Lx.box b4 25 (rv1.1.map (.int .u64)), Go.Lx.box b3 25 (p3.1.map (.int .u64)), Go.Lx.box b2 25 (p2.1.map (.int .u64)), Go.Lx.box b1 25 (p1.1.map (.int .u64))]) mo (by decide +kernel) (fun _ _ _ h => h) ?_
      have hs := hs.drew
      have hagg20 := Hle.refl gg20
      have hS : SS g0 w0 gg20 [Go.Lx.box b4 25 (rv1.1.map (.int .u64)), Go.Lx.box b3 25 (p3.1.map (.int .u64)), Go.Lx.box b2 25 (p2.1.map (.int .u64)), Go.Lx.box b1 25 (p1.1.map (.int .u64))] _ := ⟨gg20, Hle.refl _, hs⟩
      refine A rfl hS (fun w9 h9 => by obtain ⟨g9, hle9, hs⟩ := h9; exact r_loadN (cs := p1.1.map (.int .u64)) ti25 rfl (by simp [p1.2]) (hs.cells (i := 3) rfl)) rfl ?_
      refine A rfl hS (fun w9 h9 => by obtain ⟨g9, hle9, hs⟩ := h9; exact r_loadN (cs := p2.1.map (.int .u64)) ti25 rfl (by simp [p2.2]) (hs.cells (i := 2) rfl)) rfl ?_
      refine A rfl hS (fun w9 h9 => by obtain ⟨g9, hle9, hs⟩ := h9; exact r_loadN (cs := p3.1.map (.int .u64)) ti25 rfl (by simp [p3.2]) (hs.cells (i := 1) rfl)) rfl ?_
      refine A rfl hS (fun w9 h9 => by obtain ⟨g9, hle9, hs⟩ := h9; exact r_loadN (cs := p1.1.map (.int .u64)) ti25 rfl (by simp [p1.2]) (hs.cells (i := 3) rfl)) rfl ?_
      refine A rfl hS (fun w9 h9 => by obtain ⟨g9, hle9, hs⟩ := h9; exact r_loadN (cs := p2.1.map (.int .u64)) ti25 rfl (by simp [p2.2]) (hs.cells (i := 2) rfl)) rfl ?_
      refine A rfl hS (fun w9 h9 => by obtain ⟨g9, hle9, hs⟩ := h9; exact r_loadN (cs := p1.1.map (.int .u64)) ti25 rfl (by simp [p1.2]) (hs.cells (i := 3) rfl)) rfl ?_
      refine A rfl hS (fun w9 h9 => by obtain ⟨g9, hle9, hs⟩ := h9; exact r_loadN (cs := p3.1.map (.int .u64)) ti25 rfl (by simp [p3.2]) (hs.cells (i := 1) rfl)) rfl ?_
      refine A1 rfl ?_
      obtain ⟨rv20, hrv20, hM⟩ := bindS hM
      refine C [encV .u64 p2, encV .u64 p3] cf18 rfl (byteset_Union_ok hrv20 hs.imm) rfl ?_
      rintro v20 wv25 ⟨gg21, hvv20, hegg21⟩
      have hlegg21 := hegg21.le hs.imm
      replace hs := hs.call hegg21
      replace hagg9 := hagg9.trans hlegg21
      replace hagg20 := hagg20.trans hlegg21
      obtain ⟨cs20, rfl, hcs20⟩ := hvv20
      have hcs20 : cs20 = _ := hcs20; subst hcs20
      refine OW_nil ?_
      have hS : SS g0 w0 gg20 [Go.Lx.box b4 25 (rv1.1.map (.int .u64)), Go.Lx.box b3 25 (p3.1.map (.int .u64)), Go.Lx.box b2 25 (p2.1.map (.int .u64)), Go.Lx.box b1 25 (p1.1.map (.int .u64))] _ := ⟨gg21, hagg20, hs⟩
      refine ⟨hS, ?_⟩
      refine A1 rfl ?_
      obtain ⟨rv21, hrv21, hM⟩ := bindS hM
      refine C [encV .u64 p1, encV .u64 rv20] cf20 rfl (byteset_Intersect_ok hrv21 hs.imm) rfl ?_
      rintro v21 wv26 ⟨gg22, hvv21, hegg22⟩
      have hlegg22 := hegg22.le hs.imm
      replace hs := hs.call hegg22
      replace hagg9 := hagg9.trans hlegg22
      replace hagg20 := hagg20.trans hlegg22
      obtain ⟨cs21, rfl, hcs21⟩ := hvv21
      have hcs21 : cs21 = _ := hcs21; subst hcs21
      refine OW_nil ?_
      have hS : SS g0 w0 gg20 [Go.Lx.box b4 25 (rv1.1.map (.int .u64)), Go.Lx.box b3 25 (p3.1.map (.int .u64)), Go.Lx.box b2 25 (p2.1.map (.int .u64)), Go.Lx.box b1 25 (p1.1.map (.int .u64))] _ := ⟨gg22, hagg20, hs⟩
      refine ⟨hS, ?_⟩
      refine A1 rfl ?_
      obtain ⟨rv22, hrv22, hM⟩ := bindS hM
      refine C [encV .u64 p1, encV .u64 p2] cf20 rfl (byteset_Intersect_ok hrv22 hs.imm) rfl ?_
      rintro v22 wv27 ⟨gg23, hvv22, hegg23⟩
      have hlegg23 := hegg23.le hs.imm
      replace hs := hs.call hegg23
      replace hagg9 := hagg9.trans hlegg23
      replace hagg20 := hagg20.trans hlegg23
      obtain ⟨cs22, rfl, hcs22⟩ := hvv22
      have hcs22 : cs22 = _ := hcs22; subst hcs22
      refine OW_nil ?_
      have hS : SS g0 w0 gg20 [Go.Lx.box b4 25 (rv1.1.map (.int .u64)), Go.Lx.box b3 25 (p3.1.map (.int .u64)), Go.Lx.box b2 25 (p2.1.map (.int .u64)), Go.Lx.box b1 25 (p1.1.map (.int .u64))] _ := ⟨gg23, hagg20, hs⟩
      refine ⟨hS, ?_⟩
      refine A1 rfl ?_
      obtain ⟨rv23, hrv23, hM⟩ := bindS hM
      refine C [encV .u64 p1, encV .u64 p3] cf20 rfl (byteset_Intersect_ok hrv23 hs.imm) rfl ?_
      rintro v23 wv28 ⟨gg24, hvv23, hegg24⟩
      have hlegg24 := hegg24.le hs.imm
      replace hs := hs.call hegg24
      replace hagg9 := hagg9.trans hlegg24
      replace hagg20 := hagg20.trans hlegg24
      obtain ⟨cs23, rfl, hcs23⟩ := hvv23
      have hcs23 : cs23 = _ := hcs23; subst hcs23
      refine OW_nil ?_
      have hS : SS g0 w0 gg20 [Go.Lx.box b4 25 (rv1.1.map (.int .u64)), Go.Lx.box b3 25 (p3.1.map (.int .u64)), Go.Lx.box b2 25 (p2.1.map (.int .u64)), Go.Lx.box b1 25 (p1.1.map (.int .u64))] _ := ⟨gg24, hagg20, hs⟩
      refine ⟨hS, ?_⟩
      refine A1 rfl ?_
      obtain ⟨rv24, hrv24, hM⟩ := bindS hM
      refine C [encV .u64 rv22, encV .u64 rv23] cf18 rfl (byteset_Union_ok hrv24 hs.imm) rfl ?_
      rintro v24 wv29 ⟨gg25, hvv24, hegg25⟩
      have hlegg25 := hegg25.le hs.imm
      replace hs := hs.call hegg25
      replace hagg9 := hagg9.trans hlegg25
      replace hagg20 := hagg20.trans hlegg25
      obtain ⟨cs24, rfl, hcs24⟩ := hvv24
      have hcs24 : cs24 = _ := hcs24; subst hcs24
      refine OW_nil ?_
      have hS : SS g0 w0 gg20 [Go.Lx.box b4 25 (rv1.1.map (.int .u64)), Go.Lx.box b3 25 (p3.1.map (.int .u64)), Go.Lx.box b2 25 (p2.1.map (.int .u64)), Go.Lx.box b1 25 (p1.1.map (.int .u64))] _ := ⟨gg25, hagg20, hs⟩
      refine ⟨hS, ?_⟩
      refine A rfl hS (fun w9 h9 => by obtain ⟨g9, hle9, hs⟩ := h9; exact r_eqlV Try.underlying25 Try.underlying23 ti23 rfl rfl eg25) rfl ?_
      refine A rfl hS (fun w9 h9 => by obtain ⟨g9, hle9, hs⟩ := h9; exact r_assign (v := .bool (rv21 == rv24)) rfl) rfl ?_
      refine AN ?_
      obtain ⟨xv2, hx2, hKhx2⟩ := bindS hM
      refine WP_cut (fun E w => ∃ (gg33 : Hp), E 6 = .bool xv2 ∧ Hle gg25 gg33 ∧ Go.Lx.Sep g0 w0 gg33 w []) ?_ ?_
      · have hM := hx2
        have hagg25 := Hle.refl gg25
        refine WP_any (.s 0 (.q 1 (.q 2 (.q 3 (.q 4 (.q 5 (.q 6 (.q 7 (.q 8 (.q 10 (.q 13 (.q 14 (.q 17 (.q 18 (.s 9 (.s 11 (.q 12 (.s 15 (.s 16 (.s 19 (.s 20 (.q 21 (.q 22 (.q 23 (.q 24 (.leaf)))))))))))))))))))))))))) (SS g0 w0 gg25 [Go.Lx.box b4 25 (rv1.1.map (.int .u64)), Go.Lx.box b3 25 (p3.1.map (.int .u64)), Go.Lx.box b2 25 (p2.1.map (.int .u64)), Go.Lx.box b1 25 (p1.1.map (.int .u64))]) mo (by decide +kernel) (fun _ _ _ h => h) ?_
        have hs := hs.drew
        have hS : SS g0 w0 gg25 [Go.Lx.box b4 25 (rv1.1.map (.int .u64)), Go.Lx.box b3 25 (p3.1.map (.int .u64)), Go.Lx.box b2 25 (p2.1.map (.int .u64)), Go.Lx.box b1 25 (p1.1.map (.int .u64))] _ := ⟨gg25, Hle.refl _, hs⟩
        refine A1 rfl ?_
        obtain ⟨rv32, hrv32, hM⟩ := bindS hM
        refine C [] cf8 rfl (law07_awake_ok hrv32 hs.imm) rfl ?_
        rintro v32 wv37 ⟨gg34, hvv32, hegg34⟩
        have hlegg34 := hegg34.le hs.imm
        replace hs := hs.call hegg34
        replace hagg9 := hagg9.trans hlegg34
        replace hagg20 := hagg20.trans hlegg34
        replace hagg25 := hagg25.trans hlegg34
        obtain ⟨cs32, rfl, hcs32⟩ := hvv32
        have hcs32 : cs32 = _ := hcs32; subst hcs32
        refine OW_nil ?_
        have hS : SS g0 w0 gg25 [Go.Lx.box b4 25 (rv1.1.map (.int .u64)), Go.Lx.box b3 25 (p3.1.map (.int .u64)), Go.Lx.box b2 25 (p2.1.map (.int .u64)), Go.Lx.box b1 25 (p1.1.map (.int .u64))] _ := ⟨gg34, hagg25, hs⟩
        refine ⟨hS, ?_⟩
        refine A rfl hS (fun w9 h9 => by obtain ⟨g9, hle9, hs⟩ := h9; exact r_move (v := .bool rv32) rfl) rfl ?_
        rcases condS hM with ⟨hg10, hM⟩ | ⟨hg10, hM⟩
        · refine AG rfl rfl rfl rfl (by rw [hg10]; rfl) hS (fun w9 h9 => by obtain ⟨g9, hle9, hs⟩ := h9; exact r_move (v := .bool (rv17 == rv19)) rfl) rfl ?_
          refine A rfl hS (fun w9 h9 => by obtain ⟨g9, hle9, hs⟩ := h9; exact r_pickT (v := .bool (rv17 == rv19)) rfl hg10 rfl) rfl ?_
          refine A rfl hS (fun w9 h9 => by obtain ⟨g9, hle9, hs⟩ := h9; exact r_move (v := .bool (rv17 == rv19)) rfl) rfl ?_
          rcases condS hM with ⟨hg11, hM⟩ | ⟨hg11, hM⟩
          · refine AG rfl rfl rfl rfl (by rw [hg11]; rfl) hS (fun w9 h9 => by obtain ⟨g9, hle9, hs⟩ := h9; exact r_move (v := .bool (rv21 == rv24)) rfl) rfl ?_
            refine A rfl hS (fun w9 h9 => by obtain ⟨g9, hle9, hs⟩ := h9; exact r_pickT (v := .bool (rv21 == rv24)) rfl hg11 rfl) rfl ?_
            refine A rfl hS (fun w9 h9 => by obtain ⟨g9, hle9, hs⟩ := h9; exact r_move (v := .bool (rv21 == rv24)) rfl) rfl ?_
            rcases condS hM with ⟨hg12, hM⟩ | ⟨hg12, hM⟩
            · refine AG rfl rfl rfl rfl (by rw [hg12]; rfl) hS (fun w9 h9 => by obtain ⟨g9, hle9, hs⟩ := h9; exact r_loadN (cs := p1.1.map (.int .u64)) ti25 rfl (by simp [p1.2]) (hs.cells (i := 3) rfl)) rfl ?_
              refine AG rfl rfl rfl rfl (by rw [hg12]; rfl) hS (fun w9 h9 => by obtain ⟨g9, hle9, hs⟩ := h9; exact r_loadN (cs := p2.1.map (.int .u64)) ti25 rfl (by simp [p2.2]) (hs.cells (i := 2) rfl)) rfl ?_
              refine AG rfl rfl rfl rfl (by rw [hg12]; rfl) hS (fun w9 h9 => by obtain ⟨g9, hle9, hs⟩ := h9; exact r_loadN (cs := p1.1.map (.int .u64)) ti25 rfl (by simp [p1.2]) (hs.cells (i := 3) rfl)) rfl ?_
              refine AG rfl rfl rfl rfl (by rw [hg12]; rfl) hS (fun w9 h9 => by obtain ⟨g9, hle9, hs⟩ := h9; exact r_loadN (cs := p2.1.map (.int .u64)) ti25 rfl (by simp [p2.2]) (hs.cells (i := 2) rfl)) rfl ?_
              refine AG rfl rfl rfl rfl (by rw [hg12]; rfl) hS (fun w9 h9 => by obtain ⟨g9, hle9, hs⟩ := h9; exact r_loadN (cs := p1.1.map (.int .u64)) ti25 rfl (by simp [p1.2]) (hs.cells (i := 3) rfl)) rfl ?_
              refine AG rfl rfl rfl rfl (by rw [hg12]; rfl) hS (fun w9 h9 => by obtain ⟨g9, hle9, hs⟩ := h9; exact r_loadN (cs := p2.1.map (.int .u64)) ti25 rfl (by simp [p2.2]) (hs.cells (i := 2) rfl)) rfl ?_
              refine A1 rfl ?_
              obtain ⟨rv33, hrv33, hM⟩ := bindS hM
              refine CG rfl rfl rfl (by rw [hg12]; rfl) [encV .u64 p1] cf24 rfl (byteset_Len_ok hrv33 hs.imm) rfl ?_
              rintro v33 wv38 ⟨gg35, hvv33, hegg35⟩
              have hlegg35 := hegg35.le hs.imm
              replace hs := hs.call hegg35
              replace hagg9 := hagg9.trans hlegg35
              replace hagg20 := hagg20.trans hlegg35
              replace hagg25 := hagg25.trans hlegg35
              obtain ⟨cs33, rfl, hcs33⟩ := hvv33
              have hcs33 : cs33 = _ := hcs33; subst hcs33
              refine OW_nil ?_
              have hS : SS g0 w0 gg25 [Go.Lx.box b4 25 (rv1.1.map (.int .u64)), Go.Lx.box b3 25 (p3.1.map (.int .u64)), Go.Lx.box b2 25 (p2.1.map (.int .u64)), Go.Lx.box b1 25 (p1.1.map (.int .u64))] _ := ⟨gg35, hagg25, hs⟩
              refine ⟨hS, ?_⟩
              refine A1 rfl ?_
              obtain ⟨rv34, hrv34, hM⟩ := bindS hM
              refine CG rfl rfl rfl (by rw [hg12]; rfl) [encV .u64 p2] cf24 rfl (byteset_Len_ok hrv34 hs.imm) rfl ?_
              rintro v34 wv39 ⟨gg36, hvv34, hegg36⟩
              have hlegg36 := hegg36.le hs.imm
              replace hs := hs.call hegg36
              replace hagg9 := hagg9.trans hlegg36
              replace hagg20 := hagg20.trans hlegg36
              replace hagg25 := hagg25.trans hlegg36
              obtain ⟨cs34, rfl, hcs34⟩ := hvv34
              have hcs34 : cs34 = _ := hcs34; subst hcs34
              refine OW_nil ?_
              have hS : SS g0 w0 gg25 [Go.Lx.box b4 25 (rv1.1.map (.int .u64)), Go.Lx.box b3 25 (p3.1.map (.int .u64)), Go.Lx.box b2 25 (p2.1.map (.int .u64)), Go.Lx.box b1 25 (p1.1.map (.int .u64))] _ := ⟨gg36, hagg25, hs⟩
              refine ⟨hS, ?_⟩
              obtain ⟨t5, ht5, hM⟩ := bindS hM
              refine AG rfl rfl rfl rfl (by rw [hg12]; rfl) hS (fun w9 h9 => by obtain ⟨g9, hle9, hs⟩ := h9; exact r_addM rfl rfl ht5) rfl ?_
              refine A1 rfl ?_
              obtain ⟨rv35, hrv35, hM⟩ := bindS hM
              refine CG rfl rfl rfl (by rw [hg12]; rfl) [encV .u64 p1, encV .u64 p2] cf18 rfl (byteset_Union_ok hrv35 hs.imm) rfl ?_
              rintro v35 wv40 ⟨gg37, hvv35, hegg37⟩
              have hlegg37 := hegg37.le hs.imm
              replace hs := hs.call hegg37
              replace hagg9 := hagg9.trans hlegg37
              replace hagg20 := hagg20.trans hlegg37
              replace hagg25 := hagg25.trans hlegg37
              obtain ⟨cs35, rfl, hcs35⟩ := hvv35
              have hcs35 : cs35 = _ := hcs35; subst hcs35
              refine OW_nil ?_
              have hS : SS g0 w0 gg25 [Go.Lx.box b4 25 (rv1.1.map (.int .u64)), Go.Lx.box b3 25 (p3.1.map (.int .u64)), Go.Lx.box b2 25 (p2.1.map (.int .u64)), Go.Lx.box b1 25 (p1.1.map (.int .u64))] _ := ⟨gg37, hagg25, hs⟩
              refine ⟨hS, ?_⟩
              refine A1 rfl ?_
              obtain ⟨rv36, hrv36, hM⟩ := bindS hM
              refine CG rfl rfl rfl (by rw [hg12]; rfl) [encV .u64 rv35] cf24 rfl (byteset_Len_ok hrv36 hs.imm) rfl ?_
              rintro v36 wv41 ⟨gg38, hvv36, hegg38⟩
              have hlegg38 := hegg38.le hs.imm
              replace hs := hs.call hegg38
              replace hagg9 := hagg9.trans hlegg38
              replace hagg20 := hagg20.trans hlegg38
              replace hagg25 := hagg25.trans hlegg38
              obtain ⟨cs36, rfl, hcs36⟩ := hvv36
              have hcs36 : cs36 = _ := hcs36; subst hcs36
              refine OW_nil ?_
              have hS : SS g0 w0 gg25 [Go.Lx.box b4 25 (rv1.1.map (.int .u64)), Go.Lx.box b3 25 (p3.1.map (.int .u64)), Go.Lx.box b2 25 (p2.1.map (.int .u64)), Go.Lx.box b1 25 (p1.1.map (.int .u64))] _ := ⟨gg38, hagg25, hs⟩
              refine ⟨hS, ?_⟩
              refine A1 rfl ?_
              obtain ⟨rv37, hrv37, hM⟩ := bindS hM
              refine CG rfl rfl rfl (by rw [hg12]; rfl) [encV .u64 p1, encV .u64 p2] cf20 rfl (byteset_Intersect_ok hrv37 hs.imm) rfl ?_
              rintro v37 wv42 ⟨gg39, hvv37, hegg39⟩
              have hlegg39 := hegg39.le hs.imm
              replace hs := hs.call hegg39
              replace hagg9 := hagg9.trans hlegg39
              replace hagg20 := hagg20.trans hlegg39
              replace hagg25 := hagg25.trans hlegg39
              obtain ⟨cs37, rfl, hcs37⟩ := hvv37
              have hcs37 : cs37 = _ := hcs37; subst hcs37
              refine OW_nil ?_
              have hS : SS g0 w0 gg25 [Go.Lx.box b4 25 (rv1.1.map (.int .u64)), Go.Lx.box b3 25 (p3.1.map (.int .u64)), Go.Lx.box b2 25 (p2.1.map (.int .u64)), Go.Lx.box b1 25 (p1.1.map (.int .u64))] _ := ⟨gg39, hagg25, hs⟩
              refine ⟨hS, ?_⟩
              refine A1 rfl ?_
              obtain ⟨rv38, hrv38, hM⟩ := bindS hM
              refine CG rfl rfl rfl (by rw [hg12]; rfl) [encV .u64 rv37] cf24 rfl (byteset_Len_ok hrv38 hs.imm) rfl ?_
              rintro v38 wv43 ⟨gg40, hvv38, hegg40⟩
              have hlegg40 := hegg40.le hs.imm
              replace hs := hs.call hegg40
              replace hagg9 := hagg9.trans hlegg40
              replace hagg20 := hagg20.trans hlegg40
              replace hagg25 := hagg25.trans hlegg40
              obtain ⟨cs38, rfl, hcs38⟩ := hvv38
              have hcs38 : cs38 = _ := hcs38; subst hcs38
              refine OW_nil ?_
              have hS : SS g0 w0 gg25 [Go.Lx.box b4 25 (rv1.1.map (.int .u64)), Go.Lx.box b3 25 (p3.1.map (.int .u64)), Go.Lx.box b2 25 (p2.1.map (.int .u64)), Go.Lx.box b1 25 (p1.1.map (.int .u64))] _ := ⟨gg40, hagg25, hs⟩
              refine ⟨hS, ?_⟩
              obtain ⟨t6, ht6, hM⟩ := bindS hM
              refine AG rfl rfl rfl rfl (by rw [hg12]; rfl) hS (fun w9 h9 => by obtain ⟨g9, hle9, hs⟩ := h9; exact r_addM rfl rfl ht6) rfl ?_
              refine AG rfl rfl rfl rfl (by rw [hg12]; rfl) hS (fun w9 h9 => by obtain ⟨g9, hle9, hs⟩ := h9; exact r_eql rfl rfl) rfl ?_
              refine A rfl hS (fun w9 h9 => by obtain ⟨g9, hle9, hs⟩ := h9; exact r_pickT (v := .bool (t5 == t6)) rfl hg12 rfl) rfl ?_
              refine A rfl hS (fun w9 h9 => by obtain ⟨g9, hle9, hs⟩ := h9; exact r_assign (v := .bool (t5 == t6)) rfl) rfl ?_
              refine AN ?_
              obtain rfl := Option.some.inj hM
              exact ⟨gg40, rfl, hagg25, (hs.sub (.cons _ (.cons _ (.cons _ (.cons _ .slnil)))))⟩
            · refine AK rfl rfl rfl rfl (by rw [hg12]; rfl) hS rfl ?_
              refine AK rfl rfl rfl rfl (by rw [hg12]; rfl) hS rfl ?_
              refine AK rfl rfl rfl rfl (by rw [hg12]; rfl) hS rfl ?_
              refine AK rfl rfl rfl rfl (by rw [hg12]; rfl) hS rfl ?_
              refine AK rfl rfl rfl rfl (by rw [hg12]; rfl) hS rfl ?_
              refine AK rfl rfl rfl rfl (by rw [hg12]; rfl) hS rfl ?_
              refine A1 rfl ?_
              refine OK rfl rfl rfl (by rw [hg12]; rfl) rfl ?_
              refine OW_nil ⟨hS, ?_⟩
              refine A1 rfl ?_
              refine OK rfl rfl rfl (by rw [hg12]; rfl) rfl ?_
              refine OW_nil ⟨hS, ?_⟩
              refine AK rfl rfl rfl rfl (by rw [hg12]; rfl) hS rfl ?_
              refine A1 rfl ?_
              refine OK rfl rfl rfl (by rw [hg12]; rfl) rfl ?_
              refine OW_nil ⟨hS, ?_⟩
              refine A1 rfl ?_
              refine OK rfl rfl rfl (by rw [hg12]; rfl) rfl ?_
              refine OW_nil ⟨hS, ?_⟩
              refine A1 rfl ?_
              refine OK rfl rfl rfl (by rw [hg12]; rfl) rfl ?_
              refine OW_nil ⟨hS, ?_⟩
              refine A1 rfl ?_
              refine OK rfl rfl rfl (by rw [hg12]; rfl) rfl ?_
              refine OW_nil ⟨hS, ?_⟩
              refine AK rfl rfl rfl rfl (by rw [hg12]; rfl) hS rfl ?_
              refine AK rfl rfl rfl rfl (by rw [hg12]; rfl) hS rfl ?_
              refine A rfl hS (fun w9 h9 => by obtain ⟨g9, hle9, hs⟩ := h9; exact r_pickF (v := .bool false) rfl hg12 rfl) rfl ?_
              refine A rfl hS (fun w9 h9 => by obtain ⟨g9, hle9, hs⟩ := h9; exact r_assign (v := .bool false) rfl) rfl ?_
              refine AN ?_
              obtain rfl := Option.some.inj hM
              exact ⟨gg34, rfl, hagg25, (hs.sub (.cons _ (.cons _ (.cons _ (.cons _ .slnil)))))⟩
          · refine AK rfl rfl rfl rfl (by rw [hg11]; rfl) hS rfl ?_
            refine A rfl hS (fun w9 h9 => by obtain ⟨g9, hle9, hs⟩ := h9; exact r_pickF (v := .bool false) rfl hg11 rfl) rfl ?_
            refine A rfl hS (fun w9 h9 => by obtain ⟨g9, hle9, hs⟩ := h9; exact r_move (v := .bool false) rfl) rfl ?_
            refine AK rfl rfl rfl rfl rfl hS rfl ?_
            refine AK rfl rfl rfl rfl rfl hS rfl ?_
            refine AK rfl rfl rfl rfl rfl hS rfl ?_
            refine AK rfl rfl rfl rfl rfl hS rfl ?_
            refine AK rfl rfl rfl rfl rfl hS rfl ?_
            refine AK rfl rfl rfl rfl rfl hS rfl ?_
            refine A1 rfl ?_
            refine OK rfl rfl rfl rfl rfl ?_
            refine OW_nil ⟨hS, ?_⟩
            refine A1 rfl ?_
            refine OK rfl rfl rfl rfl rfl ?_
            refine OW_nil ⟨hS, ?_⟩
            refine AK rfl rfl rfl rfl rfl hS rfl ?_
            refine A1 rfl ?_
            refine OK rfl rfl rfl rfl rfl ?_
            refine OW_nil ⟨hS, ?_⟩
            refine A1 rfl ?_
            refine OK rfl rfl rfl rfl rfl ?_
            refine OW_nil ⟨hS, ?_⟩
            refine A1 rfl ?_
            refine OK rfl rfl rfl rfl rfl ?_
            refine OW_nil ⟨hS, ?_⟩
            refine A1 rfl ?_
            refine OK rfl rfl rfl rfl rfl ?_
            refine OW_nil ⟨hS, ?_⟩
            refine AK rfl rfl rfl rfl rfl hS rfl ?_
            refine AK rfl rfl rfl rfl rfl hS rfl ?_
            refine A rfl hS (fun w9 h9 => by obtain ⟨g9, hle9, hs⟩ := h9; exact r_pickF (v := .bool false) rfl rfl rfl) rfl ?_
            refine A rfl hS (fun w9 h9 => by obtain ⟨g9, hle9, hs⟩ := h9; exact r_assign (v := .bool false) rfl) rfl ?_
            refine AN ?_
            obtain rfl := Option.some.inj hM
            exact ⟨gg34, rfl, hagg25, (hs.sub (.cons _ (.cons _ (.cons _ (.cons _ .slnil)))))⟩
        · refine AK rfl rfl rfl rfl (by rw [hg10]; rfl) hS rfl ?_
          refine A rfl hS (fun w9 h9 => by obtain ⟨g9, hle9, hs⟩ := h9; exact r_pickF (v := .bool false) rfl hg10 rfl) rfl ?_
          refine A rfl hS (fun w9 h9 => by obtain ⟨g9, hle9, hs⟩ := h9; exact r_move (v := .bool false) rfl) rfl ?_
          refine AK rfl rfl rfl rfl rfl hS rfl ?_
          refine A rfl hS (fun w9 h9 => by obtain ⟨g9, hle9, hs⟩ := h9; exact r_pickF (v := .bool false) rfl rfl rfl) rfl ?_
          refine A rfl hS (fun w9 h9 => by obtain ⟨g9, hle9, hs⟩ := h9; exact r_move (v := .bool false) rfl) rfl ?_
          refine AK rfl rfl rfl rfl rfl hS rfl ?_
          refine AK rfl rfl rfl rfl rfl hS rfl ?_
          refine AK rfl rfl rfl rfl rfl hS rfl ?_
          refine AK rfl rfl rfl rfl rfl hS rfl ?_
          refine AK rfl rfl rfl rfl rfl hS rfl ?_
          refine AK rfl rfl rfl rfl rfl hS rfl ?_
          refine A1 rfl ?_
          refine OK rfl rfl rfl rfl rfl ?_
          refine OW_nil ⟨hS, ?_⟩
          refine A1 rfl ?_
          refine OK rfl rfl rfl rfl rfl ?_
          refine OW_nil ⟨hS, ?_⟩
          refine AK rfl rfl rfl rfl rfl hS rfl ?_
          refine A1 rfl ?_
          refine OK rfl rfl rfl rfl rfl ?_
          refine OW_nil ⟨hS, ?_⟩
          refine A1 rfl ?_
          refine OK rfl rfl rfl rfl rfl ?_
          refine OW_nil ⟨hS, ?_⟩
          refine A1 rfl ?_
          refine OK rfl rfl rfl rfl rfl ?_
          refine OW_nil ⟨hS, ?_⟩
          refine A1 rfl ?_
          refine OK rfl rfl rfl rfl rfl ?_
          refine OW_nil ⟨hS, ?_⟩
          refine AK rfl rfl rfl rfl rfl hS rfl ?_
          refine AK rfl rfl rfl rfl rfl hS rfl ?_
          refine A rfl hS (fun w9 h9 => by obtain ⟨g9, hle9, hs⟩ := h9; exact r_pickF (v := .bool false) rfl rfl rfl) rfl ?_
          refine A rfl hS (fun w9 h9 => by obtain ⟨g9, hle9, hs⟩ := h9; exact r_assign (v := .bool false) rfl) rfl ?_
          refine AN ?_
          obtain rfl := Option.some.inj hM
          exact ⟨gg34, rfl, hagg25, (hs.sub (.cons _ (.cons _ (.cons _ (.cons _ .slnil)))))⟩
      · clear hs
        rintro E w ⟨gg33, hE6, hlegg33, hs⟩
        have hM := hKhx2
        obtain ⟨E, rfl⟩ := open1 (E := E) hE6
        replace hagg9 := hagg9.trans hlegg33
        replace hagg20 := hagg20.trans hlegg33
        refine WP_ret ?_
        obtain rfl := Option.some.inj hM
        exact ⟨_, res1 Try.results7 (rv_tmp (v := .bool xv2) rfl), gg33, ⟨[.bool xv2], rfl, rfl⟩, hs.ext⟩


end Go.Proofs.Ytjjinpgjfabemaa
