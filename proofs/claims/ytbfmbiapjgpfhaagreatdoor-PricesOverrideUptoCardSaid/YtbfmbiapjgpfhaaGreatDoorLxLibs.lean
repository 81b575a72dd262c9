/- Lx: contracts of Go's library in this layer's words: a builder's copyCheck, Split at one byte, FieldsFunc, Trim, Atoi, Itoa. Generic over the program. -/
import Derived.Test.YtbfmbiapjgpfhaaGreatDoorLxText
import Derived.Test.YtbfmbiapjgpfhaaGreatDoorLxFn
import Derived.Test.YtbfmbiapjgpfhaaGreatDoorLxFrame
import Derived.Test.YtbfmbiapjgpfhaaGreatDoorLxLaid
import Derived.Shelf.Strings.Builder1
import Derived.Shelf.Strings.SplitCore
import Derived.Shelf.Strings.Search3
import Derived.Shelf.Strings.Count
import Derived.Lib.SplitLaws
import Derived.Shelf.Strings.FieldsFuncGrows
import Derived.Shelf.Strings.SlTrimAscii
import Derived.Shelf.Strconv.Atoi
import Derived.Shelf.Strconv.Itoa3
set_option linter.unusedVariables false
namespace Go.Lx
open Go.RowKit Go.Shelf Go.Proofs Go.Lib

theorem sep_row {g0 : Hp} {w0 w' : World} (hi : Imm g0 w0) (hb : Below w0.heap.size w0 w') {v : Value} {e : TypeId} {sz n : Nat} {xs : List Value} (ho : w'.ownsRow w0.heap.size e sz v n xs) : Sep g0 w0 g0 w' [.row v e sz n xs] := by
  refine ⟨ext_of_below hi hb, ?_, ?_, List.pairwise_singleton _ _⟩
  · intro r hr
    obtain rfl := List.mem_singleton.1 hr
    exact ⟨ownsRow_zero ho⟩
  · intro r hr b hb'
    obtain rfl := List.mem_singleton.1 hr
    have h1 := ho.lt b hb'
    refine ⟨h1.1, ?_⟩
    cases hg : g0 b with
    | none => rfl
    | some o => have := hi.lt hg; omega
theorem gtab_of_reads {P : Program} {W : World} {n : String} {d : DataW Unit} (h : VarReads P W n d) {b t e : Nat} {m : Nat} {k : IntKind} {v : Vec m} (hb : P.globalNamed n = some b) (ht : (P.globals[b]?).map (·.type) = some t)
    (hT : P.underlying t = some (.array m e)) (hE : P.underlying e = some (.int k)) (hce : P.cellsOf e = 1) (hct : P.cellsOf t = m) (hd : d = tabData k v.1) : GTab b (v.1.map (Value.int k)) (allHp W) := by
  obtain ⟨b', t', cs, fuel, p, h1, h2, h3, h4⟩ := h
  obtain rfl : b' = b := Option.some.inj (h1.symm.trans hb)
  obtain rfl : t' = t := Option.some.inj (h2.symm.trans ht)
  subst hd
  have hcs := cells_of_tab hT hE hce hct h4
  simp only [World.var?, hb, Option.bind_some] at h3
  cases ho : W.heap[b']? with
  | none => rw [ho] at h3; cases h3
  | some o =>
    rw [ho] at h3
    cases o with
    | cells arr T fz =>
      obtain rfl := Option.some.inj h3
      exact ⟨T, fz, by rw [← hcs]; simpa [allHp] using ho⟩
    | _ => cases h3
theorem rowStr {g : Hp} (l : List ByteArray) : RowRel tStr g (l.map Value.string) (l.map (·.data.toList)) := by
  refine ⟨by simp [tStr], fun i x hx => ?_⟩
  simp only [List.getElem?_map] at hx
  cases hi : l[i]? with
  | none => rw [hi] at hx; cases hx
  | some c =>
    rw [hi] at hx
    obtain rfl := Option.some.inj hx
    have h3 : (l.map Value.string)[i]? = some (.string c) := by simp [hi]
    simp only [tStr, Nat.mul_one]
    obtain ⟨hl, h4⟩ := List.getElem?_eq_some_iff.1 h3
    rw [List.drop_eq_getElem_cons hl, h4]
    simp [encS]
theorem rowInts {g : Hp} {k : IntKind} {xs : List Value} {l : List Int} (h : RowRel (tInt k) g xs l) : xs = l.map (Value.int k) := by
  apply List.ext_getElem?
  intro i
  have hl : xs.length = l.length := by simpa [tInt] using h.1
  by_cases hi : i < l.length
  · have := h.2 i l[i] (List.getElem?_eq_getElem hi)
    simp only [tInt, Nat.mul_one] at this
    have h0 := congrArg (fun c => c[0]?) this
    simp only [List.getElem?_take, List.getElem?_drop] at h0
    simpa [hi] using h0
  · rw [List.getElem?_eq_none (by omega), List.getElem?_eq_none (by simp; omega)]
theorem byteCells_toStr {l : List Int} (h : ∀ n ∈ l, 0 ≤ n ∧ n < 256) : Lib.byteCells (toStr l) = l.map (Value.int .u8) := by
  simp only [Lib.byteCells, toStr, List.map_map]
  refine List.map_congr_left fun n hn => ?_
  have := h n hn
  simp only [Function.comp_apply, UInt8.toNat_ofNat']
  congr 1
  omega
section
variable {P : Program} {ρ : Ren}
/-- (*strings.Builder).copyCheck at a builder of the call's own. -/
theorem copyCheck_lx (A : Lays.n240 P ρ) (X : Builder.X72 P ρ) {g0 : Hp} {w0 : World} {gi : Hp} {wi : World} {Lt : List Res} {b : Nat} {a v : Value} (hs : Sep g0 w0 gi wi (Go.Lx.box b (ρ.t 72) [a, v] :: Lt)) (ha : BAdr b gi a) :
    CallsV P (ρ.f 240) #[.pointer (some ⟨b, 0, none⟩)] wi (fun u w' => u = .tuple #[] ∧ Sep g0 w0 gi w' (Go.Lx.box b (ρ.t 72) [.pointer (some ⟨b, 0, none⟩), v] :: Lt)) := by
  have hb := (hs.at (i := 0) rfl).out
  simp only [Res.okB] at hb
  rcases ha with rfl | rfl
  · refine (Any.Builder_copyCheck_fresh A X b wi (hs.cell (i := 0) rfl rfl) (by simp [World.shape?, hb]) (by simp [World.frozen?, hb])).mono ?_
    rintro e w' ⟨rfl, rfl⟩
    refine ⟨_, rfl, rfl, ?_⟩
    have hlt := (Array.getElem?_eq_some_iff.1 hb).1
    refine hs.upd (i := 0) (r' := Go.Lx.box b (ρ.t 72) [.pointer (some ⟨b, 0, none⟩), v]) rfl ⟨rfl, rfl, rfl, by simp [World.setCell], fun k _ hk => ?_⟩ ⟨?_⟩ (fun b' hb' => .inl hb')
    · have hne : ¬ b = k := fun e => hk (by rw [e]; rfl)
      simp only [World.setCell, Array.getElem?_modify, if_neg hne]
    · simp only [Res.okB, World.setCell, Array.getElem?_modify, hb, Option.map_some]
      rfl
  · refine (Any.Builder_copyCheck_used A X b wi (hs.cell (i := 0) rfl rfl)).mono ?_
    rintro e w' ⟨rfl, rfl⟩
    exact ⟨_, rfl, rfl, hs⟩
/-- (*strings.Builder).String: the bytes; what is left of the call's own is given up. -/
theorem builderString_lx (A : Lays.n169 P ρ) (X : Builder.Extra P ρ) {g0 : Hp} {w0 : World} (hi : Imm g0 w0) {gi : Hp} {wi : World} {Lt : List Res} {b : Nat} {a v : Value} {l : List Int} {xs : List Value} (hl : ∀ n ∈ l, 0 ≤ n ∧ n < 256)
    (hs : Sep g0 w0 gi wi (Go.Lx.box b (ρ.t 72) [a, v] :: .row v (ρ.t 5) (tInt .u8).sz l.length xs :: Lt)) (ha : BAdr b gi a) (hr : RowRel (tInt .u8) gi xs l) :
    CallsV P (ρ.f 169) #[.pointer (some ⟨b, 0, none⟩)] wi (fun u w' => u = encS (toStr l) ∧ Sep g0 w0 g0 w' []) := by
  have hb := (hs.at (i := 0) rfl).out
  simp only [Res.okB] at hb
  have hrow := (hs.at (i := 1) rfl).out
  simp only [Res.okB] at hrow
  have hxs : xs = Lib.byteCells (toStr l) := by rw [rowInts hr, byteCells_toStr hl]
  have hl2 : (Lib.byteCells (toStr l)).length = l.length := by rw [← hxs, rowInts hr, List.length_map]
  have hbl : Lib.IsBuilder (ρ.t 72) (ρ.t 5) w0.heap.size b (Lib.byteCells (toStr l)) wi := by
    have hB := (hs.fresh _ (List.mem_cons_self ..) b rfl).1
    have hown : wi.ownsRow w0.heap.size (ρ.t 5) 1 v (Lib.byteCells (toStr l)).length (Lib.byteCells (toStr l)) := by
      rw [← hxs] at hl2 ⊢
      rw [hl2]
      refine ⟨hrow.1, ?_⟩
      rcases hrow.2 with h | ⟨q, cap, cur, rfl, _, hq⟩
      · exact .inl h
      · exact .inr ⟨q, cap, cur, rfl, (hs.fresh _ (List.mem_cons_of_mem _ (List.mem_cons_self ..)) q rfl).1, hq⟩
    have hne : v.ownBlock ≠ some b := (List.pairwise_cons.1 hs.apart).1 _ (List.mem_cons_self ..) b rfl
    rcases ha with rfl | rfl
    · exact .inl ⟨hB, v, hb, hown, hne⟩
    · exact .inr ⟨hB, v, hb, hown, hne⟩
  refine (Any.Builder_String_any A X w0.heap.size b (toStr l) wi hbl hs.ext.below.size).mono ?_
  rintro e w' ⟨rfl, hbw⟩
  refine ⟨_, rfl, rfl, ?_⟩
  exact ⟨ext_of_below hi (hs.ext.below.trans hbw), by simp, by simp, List.Pairwise.nil⟩
def genSplitM (s sep : Str) (save n : Int) : Option (List Str) := match sep with
  | [c] => if save = 0 ∧ n = -1 ∧ s.length < 4294967281 then some (Lib.splitK [c] 0 (Lib.count s [c]) s) else none
  | _ => none
/-- strings.genSplit, all pieces, at a separator of one byte. -/
theorem genSplit_lx (A : Lays.n221 P ρ) (hi9 : (P.info? (ρ.t 9)).map (fun i => (i.zero, i.size, i.bytes)) = some (some (.string ByteArray.empty), 1, 16)) {s sep : Str} {save n : Int} {r : List Str} (hM : genSplitM s sep save n = some r)
    {g0 : Hp} {w0 : World} (hi : Imm g0 w0) : CallsV P (ρ.f 221) #[encS s, encS sep, .int .i64 save, .int .i64 n] w0 (fun v w' => ∃ g' xs, RowRel tStr g' xs r ∧ Sep g0 w0 g' w' [.row v (ρ.t 9) tStr.sz r.length xs]) := by
  unfold genSplitM at hM
  split at hM
  · rename_i c
    split at hM
    · rename_i hc
      obtain ⟨rfl, rfl, hlen⟩ := hc
      obtain rfl := Option.some.inj hM
      have hsz : (ByteArray.mk s.toArray).size = s.length := by simp [ByteArray.size]
      have h1 : 1 ≤ (ByteArray.mk #[c]).size := Nat.le_refl 1
      have hle := Lib.countB_le ⟨#[c]⟩ h1 _ ⟨s.toArray⟩ (Nat.le_refl _)
      have hln := Lib.splitB_all ⟨#[c]⟩ h1 0 _ ⟨s.toArray⟩ rfl
      have hC : Calls P (ρ.f 138) #[.string ⟨s.toArray⟩, .string ⟨#[c]⟩] w0 fun e w' => e = .returned (.int .i64 (Lib.countB ⟨s.toArray⟩ ⟨#[c]⟩)) ∧ w' = w0 := by
        refine (Any.strings_Count_one { A with } ⟨s.toArray⟩ c w0).mono ?_
        rintro e w' ⟨rfl, rfl⟩
        refine ⟨?_, rfl⟩
        show _ = Ending.returned (Value.int .i64 ((Lib.count s.toArray.toList [c] : Nat) : Int))
        rw [Lib.count_one]
        try rfl
      have hI : ∀ (x : ByteArray) (ca : Array Value), x.size ≤ (ByteArray.mk s.toArray).size → Calls P (ρ.f 143) #[.string x, .string ⟨#[c]⟩] (w0.alloc (.cells ca (ρ.t 9))) fun e w' => e = .returned (.int .i64 (Lib.indexB x ⟨#[c]⟩)) ∧ w' = w0.alloc (.cells ca (ρ.t 9)) := by
        intro x ca _
        refine (Any.strings_Index_one { A with } x c _).mono ?_
        rintro e w' ⟨rfl, rfl⟩
        refine ⟨?_, rfl⟩
        rw [← Lib.index_one]
        try rfl
      have h := Any.strings_genSplit_core A hi9 ⟨s.toArray⟩ ⟨#[c]⟩ 0 (-1) (Lib.countB ⟨s.toArray⟩ ⟨#[c]⟩ + 1) w0 (by rw [hsz]; exact hlen) h1 (Nat.zero_le _) hI hC (by decide) (by decide) (by rw [if_pos (by decide)]; omega)
      rw [Nat.add_sub_cancel, hln] at h
      have e2 : Lib.cellsOf (Lib.splitB ⟨#[c]⟩ 0 (Lib.countB ⟨s.toArray⟩ ⟨#[c]⟩) ⟨s.toArray⟩) (Lib.countB ⟨s.toArray⟩ ⟨#[c]⟩ + 1) = ((Lib.splitB ⟨#[c]⟩ 0 (Lib.countB ⟨s.toArray⟩ ⟨#[c]⟩) ⟨s.toArray⟩).map Value.string).toArray := by rw [← hln]; exact Lib.cellsOf_full _
      rw [e2] at h
      have e3 : Lib.splitK [c] 0 (Lib.count s [c]) s = (Lib.splitB ⟨#[c]⟩ 0 (Lib.countB ⟨s.toArray⟩ ⟨#[c]⟩) ⟨s.toArray⟩).map (·.data.toList) := by
        rw [Lib.splitB_data]
        try rfl
      rw [e3]
      refine h.mono ?_
      rintro e w' ⟨rfl, rfl⟩
      refine ⟨_, rfl, g0, _, rowStr _, ?_⟩
      refine sep_row hi ((Below.refl _ _).alloc (Nat.le_refl _) _) ?_
      rw [List.length_map, hln]
      have hll : (Lib.splitB ⟨#[c]⟩ 0 (Lib.countB ⟨s.toArray⟩ ⟨#[c]⟩) ⟨s.toArray⟩).length = Lib.countB ⟨s.toArray⟩ ⟨#[c]⟩ + 1 := hln
      refine ⟨by simp [tStr, hll], .inr ⟨w0.heap.size, _, _, rfl, Nat.le_refl _, heap_alloc_new w0 _, Nat.le_refl _, by simp only [maxLen]; rw [hsz] at hle; omega, by simp [tStr, hll], ?_⟩⟩
      simp only [tStr, ← hll, Nat.mul_one]
      exact List.take_of_length_le (by simp)
    · cases hM
  · cases hM
def fieldsFuncM (s : Str) (f : Int → Option Bool) : Option (List Str) :=
  if s.length ≤ 4294967296 ∧ ∀ x : Nat, x < 1114112 → (f (x : Int)).isSome = true then some ((Lib.goFieldsP (fun x => (f (x : Int)).getD false) ⟨s.toArray⟩).map (·.data.toList)) else none
theorem fieldsFunc_lx (A : Lays.n229 P ρ) (hi154 : (P.info? (ρ.t 154)).map (fun i => (i.zero, i.size, i.bytes)) = some (some (.agg #[.int .i64 0, .int .i64 0]), 2, 16)) (hi9 : (P.info? (ρ.t 9)).map (fun i => (i.zero, i.size, i.bytes)) = some (some (.string ⟨#[]⟩), 1, 16))
    {s : Str} {f : Int → Option Bool} {r : List Str} (hM : fieldsFuncM s f = some r) {g0 : Hp} {w0 : World} (hi : Imm g0 w0) {v : Value} (hF : FnRd1 P (VRd (tInt .i32) false) (VRd tBool false) v f g0) :
    CallsV P (ρ.f 229) #[encS s, v] w0 (fun v w' => ∃ g' xs, RowRel tStr g' xs r ∧ Sep g0 w0 g' w' [.row v (ρ.t 9) tStr.sz r.length xs]) := by
  unfold fieldsFuncM at hM
  split at hM
  · rename_i hc
    obtain ⟨hl, hf⟩ := hc
    obtain rfl := Option.some.inj hM
    obtain ⟨fi, cap, rfl, hcf, hok⟩ := hF
    have hsz : (ByteArray.mk s.toArray).size = s.length := by simp [ByteArray.size]
    have eg : ∀ args w, (callFunc fi args).run P w = .ok (.enter fi args) w := by
      intro args w
      obtain ⟨fn, h1, h2, h3⟩ := hcf
      have hb2 : ¬ fn.body = none := by intro h; rw [h] at h2; cases h2
      have hn' : ¬ fn.name = "runtime.NumGoroutine" := by simpa using h3
      simp [callFunc, h1, hb2, hn']
    have hp : PredGrows P fi cap.toArray (fun x => (f (x : Int)).getD false) w0 := by
      intro W x hx hb
      have hs := hf x (by omega)
      obtain ⟨y, hy⟩ := Option.isSome_iff_exists.1 hs
      have himm : Imm g0 W := fun b o hg => by rw [hb.block b (hi.lt hg)]; exact hi b o hg
      have h := hok g0 W _ (x : Int) y (Hle.refl _) himm ⟨_, rfl, rfl⟩ hy
      have e : #[encR x] ++ cap.toArray = ([Value.int .i32 (x : Int)] ++ cap).toArray := by simp [encR]
      rw [e]
      refine Calls.mono h ?_
      rintro e w' ⟨v, rfl, g', ⟨cs, rfl, hcs⟩, hx⟩
      refine ⟨?_, hx.below⟩
      have hcs' : cs = [.bool y] := hcs
      subst hcs'
      simp [valOf, hy]
    refine (Any.strings_FieldsFunc_grows A fi cap.toArray eg _ ⟨s.toArray⟩ w0 (by rw [hsz]; exact hl) hp hi154 hi9).mono ?_
    rintro e w' ⟨B, rfl, hB, hown, hbw⟩
    refine ⟨_, rfl, g0, _, rowStr _, ?_⟩
    rw [List.length_map]
    exact sep_row hi hbw hown
  · cases hM
def trimM (s cs : Str) : Option Str := if s.length ≤ 140737488355328 ∧ cs.length < 4294967281 ∧ cs.all (fun b => decide (b.toNat < 128)) = true then some (Lib.trimS s cs) else none
theorem trim_lx (A : Lays.n160 P ρ) (h116 : (P.info? (ρ.t 116)).map (fun i => (i.zero, i.size)) = some (some (.agg (Array.replicate 256 (.bool false))), 256)) {s cs r : Str} (hM : trimM s cs = some r) {g0 : Hp} {w0 : World} (hi : Imm g0 w0) :
    CallsV P (ρ.f 160) #[encS s, encS cs] w0 (fun v w' => ∃ g', (VRd tStr false g' v r) ∧ Ext g0 w0 g' w') := by
  unfold trimM at hM
  split at hM
  · rename_i hc
    obtain rfl := Option.some.inj hM
    have hsz : ∀ l : Str, (ByteArray.mk l.toArray).size = l.length := fun l => by simp [ByteArray.size]
    refine (Any.strings_Trim_laid A h116 ⟨s.toArray⟩ ⟨cs.toArray⟩ w0 (by rw [hsz]; omega) (by rw [hsz]; exact hc.2.1) (ascii_of_all hc.2.2)).mono ?_
    rintro e w' ⟨rfl, hb⟩
    exact ⟨_, rfl, g0, ⟨_, rfl, rfl⟩, ext_of_below hi hb⟩
  · cases hM
def atoiM (s : Str) : Option (Int × Unit) := if s.length ≤ 18 then (Lib.atoi s).map fun n => (n, ()) else none
theorem atoi_lx (A : Lays.n172 P ρ) {s : Str} {r : Int × Unit} (hM : atoiM s = some r) {g0 : Hp} {w0 : World} (hi : Imm g0 w0) :
    CallsV P (ρ.f 172) #[encS s] w0 (fun v w' => ∃ g', (∃ v1 v2, v = .tuple #[v1, v2] ∧ VRd (tInt .i64) false g' v1 r.1 ∧ VRd tNil false g' v2 r.2) ∧ Ext g0 w0 g' w') := by
  unfold atoiM at hM
  split at hM
  · rename_i hl
    cases ha : Lib.atoi s with
    | none => rw [ha] at hM; cases hM
    | some m =>
      rw [ha] at hM
      obtain rfl := Option.some.inj hM
      have hsz : (ByteArray.mk s.toArray).size = s.length := by simp [ByteArray.size]
      refine (Any.strconv_Atoi A ⟨s.toArray⟩ m (by rw [hsz]; exact hl) ha w0).mono ?_
      rintro e w' ⟨rfl, t, rfl⟩
      have hg := bytesWorld_grown w0 (ρ.t 5) t
      exact ⟨_, rfl, g0, ⟨_, _, rfl, ⟨_, rfl, rfl⟩, ⟨_, rfl, rfl⟩⟩, ext_of_below hi ⟨hg.os, hg.tape, hg.output, hg.size, fun k hk => hg.block k hk (by simp)⟩⟩
  · cases hM
def itoaM (n : Int) : Option Str := if -9223372036854775808 ≤ n ∧ n ≤ 9223372036854775807 then some (Lib.itoa n) else none
theorem itoa_lx (A : LaysM.n171 P ρ) {n : Int} {r : Str} (hM : itoaM n = some r) {g0 : Hp} {w0 : World} (hi : Imm g0 w0) (htab : Lib.TabIs P w0 "internal/strconv.uint64pow10" .u64 Lib.pow10Tab) :
    CallsV P (ρ.f 171) #[.int .i64 n] w0 (fun v w' => ∃ g', (VRd tStr false g' v r) ∧ Ext g0 w0 g' w') := by
  unfold itoaM at hM
  split at hM
  · rename_i hc
    obtain rfl := Option.some.inj hM
    refine (Any.strconv_Itoa A n hc.1 hc.2 w0 htab).mono ?_
    rintro e w' ⟨rfl, k, os, rfl⟩
    exact ⟨_, rfl, g0, ⟨_, rfl, rfl⟩, ext_of_below hi (below_grown w0 k os)⟩
  · cases hM
end
end Go.Lx
