/-
  No cell of these rows narrows 'for every input' (looked for: loops, veiled, ifaces, maps, wideKeys, modest, calm, conditions, laid).
  DERIVED. THE GIVEN ROWS OF THIS SEAT. 3 by the template 'for every input the law returns true; each argument reads behind the call as it read before'; 0 by the template 'total and deterministic' (their statements: YtjdmfabmacdpgaaTotals.lean).
  GIVEN WITH THE SEED: the statements are not yours to turn. If you find one false, say at which input.
  Laid BY PROGRAM, IN A SANDBOX (cutbox-rows.mjs): the forced cells as the released guide's own fill.sh prints them over the translation 080a2126d644b816… (all of the seat's roots in one cut). By AI agents, Wed Nov 11 2026. No macro, syntax, notation, axiom, sorry.
-/
import Derived.Test.YtjdmfabmacdpgaaChecked
import GoSem.Claim
import GoSem.ClaimJoined
import GoSem.ClaimMapViews
import Derived.JoinedTies
import Derived.KernelRfl
namespace Go.Proofs.Ytjdmfabmacdpgaa
/- THE CELL 'sum', in the pinned program and in every row, IS THE sha256 OF THE DUMP (.gsa) THAT YtjdmfabmacdpgaaProg.lean LOADS. Nothing in Lean hashes anything: it is a label: what it is worth is what the hold of that sum in a sandbox is worth. -/
noncomputable def Try.pinned : Pinned := { name := "ytjdmfabmacdpgaa", sum := "080a2126d644b8169905e77288f92be44e029dc5236e744356b50acec7069eef", checked := Try.checked }
namespace Rows
def none {H : Type} : Left H := { results := [], args := [] }

/-- 'emendatelaw14.LexrepairDistance': WHATEVER THE INPUT: true; the input reads as it did. -/
def lexrepairDistanceSpec : ChangeSpec := { name := "lexrepairDistance", fn := fun _ => fun
  | [d1, d2] => { results := [.lit (.bool true)], args := [d1, d2] }
  | _ => none }
def lexrepairDistanceRow : OpenClaim := { program := "ytjdmfabmacdpgaa", sum := "080a2126d644b8169905e77288f92be44e029dc5236e744356b50acec7069eef", func := "emendate/emendatelaw14.LexrepairDistance", spec := "lexrepairDistance", inPlace := ["internal/bytealg.IndexByteString", "internal/bytealg.IndexString"], unfollowed := true, recurses := true, named := ["internal/bytealg.MaxLen"], apart := false }
def LexrepairDistanceSaid : Prop := lexrepairDistanceRow.holds Try.pinned (OpenSpec.ofChange lexrepairDistanceSpec)

/-- ITS FALSE NEIGHBOUR: 'it returns false'. Refute it at one input. -/
def lexrepairDistanceWrong : ChangeSpec := { name := "lexrepairDistance", fn := fun _ => fun
  | [d1, d2] => { results := [.lit (.bool false)], args := [d1, d2] }
  | _ => none }
def LexrepairDistanceWrongFalsely : Prop := lexrepairDistanceRow.holds Try.pinned (OpenSpec.ofChange lexrepairDistanceWrong)

/-- 'emendatelaw14.LexrepairDistanceBounds': WHATEVER THE INPUT: true; the input reads as it did. -/
def lexrepairDistanceBoundsSpec : ChangeSpec := { name := "lexrepairDistanceBounds", fn := fun _ => fun
  | [d1, d2] => { results := [.lit (.bool true)], args := [d1, d2] }
  | _ => none }
def lexrepairDistanceBoundsRow : OpenClaim := { program := "ytjdmfabmacdpgaa", sum := "080a2126d644b8169905e77288f92be44e029dc5236e744356b50acec7069eef", func := "emendate/emendatelaw14.LexrepairDistanceBounds", spec := "lexrepairDistanceBounds", inPlace := ["internal/bytealg.IndexByteString", "internal/bytealg.IndexString"], unfollowed := true, recurses := true, named := ["internal/bytealg.MaxLen"], apart := false }
def LexrepairDistanceBoundsSaid : Prop := lexrepairDistanceBoundsRow.holds Try.pinned (OpenSpec.ofChange lexrepairDistanceBoundsSpec)

/-- ITS FALSE NEIGHBOUR: 'it returns false'. Refute it at one input. -/
def lexrepairDistanceBoundsWrong : ChangeSpec := { name := "lexrepairDistanceBounds", fn := fun _ => fun
  | [d1, d2] => { results := [.lit (.bool false)], args := [d1, d2] }
  | _ => none }
def LexrepairDistanceBoundsWrongFalsely : Prop := lexrepairDistanceBoundsRow.holds Try.pinned (OpenSpec.ofChange lexrepairDistanceBoundsWrong)

/-- 'emendatelaw14.LexrepairSingleEdit': WHATEVER THE INPUT: true; the input reads as it did. -/
def lexrepairSingleEditSpec : ChangeSpec := { name := "lexrepairSingleEdit", fn := fun _ => fun
  | [d1, d2, d3] => { results := [.lit (.bool true)], args := [d1, d2, d3] }
  | _ => none }
def lexrepairSingleEditRow : OpenClaim := { program := "ytjdmfabmacdpgaa", sum := "080a2126d644b8169905e77288f92be44e029dc5236e744356b50acec7069eef", func := "emendate/emendatelaw14.LexrepairSingleEdit", spec := "lexrepairSingleEdit", inPlace := ["internal/bytealg.IndexByteString", "internal/bytealg.IndexString"], unfollowed := true, recurses := true, named := ["internal/bytealg.MaxLen"], apart := false }
def LexrepairSingleEditSaid : Prop := lexrepairSingleEditRow.holds Try.pinned (OpenSpec.ofChange lexrepairSingleEditSpec)

/-- ITS FALSE NEIGHBOUR: 'it returns false'. Refute it at one input. -/
def lexrepairSingleEditWrong : ChangeSpec := { name := "lexrepairSingleEdit", fn := fun _ => fun
  | [d1, d2, d3] => { results := [.lit (.bool false)], args := [d1, d2, d3] }
  | _ => none }
def LexrepairSingleEditWrongFalsely : Prop := lexrepairSingleEditRow.holds Try.pinned (OpenSpec.ofChange lexrepairSingleEditWrong)

/- THE SECOND FORM. 'bulk': how many values and letters a reading holds, each counted each time it is reached (what is shared counts as often as it is met; a slice's spare places count too). A statement '..UptoSaid' is the law's where the arguments, and the package variables that the reading takes, are together of bulk at most 1048576: NARROWER than '..Said'. Prove '..Said' where nothing that the law and all that it calls make is longer than what came in: it says more and counts as full. Else prove '..UptoSaid'. A law counts once. -/
mutual
def uptoBulk {H : Type} : DataW H → Nat
  | .lit (.string bytes) => bytes.length + 1
  | .lit _ => 1
  | .nil => 1
  | .ptr d => uptoBulk d + 1
  | .slice elems spare => uptoBulkAll elems + uptoBulkAll spare + 1
  | .agg parts => uptoBulkAll parts + 1
  | .iface _ d => uptoBulk d + 1
  | .map entries => uptoBulkEntries entries + 1
  | .held _ => 1
def uptoBulkAll {H : Type} : List (DataW H) → Nat
  | [] => 0
  | d :: r => uptoBulk d + uptoBulkAll r
def uptoBulkEntries {H : Type} : List (Lit × DataW H) → Nat
  | [] => 0
  | x :: r => uptoBulkEntry x + uptoBulkEntries r
def uptoBulkEntry {H : Type} : Lit × DataW H → Nat
  | (.string bytes, d) => bytes.length + uptoBulk d + 1
  | (_, d) => uptoBulk d + 1
 end
def uptoSmall : (H : Type) → List (DataW H) → Bool := fun _ ds => decide (uptoBulkAll ds ≤ 1048576)
def OpenSpec.upto (s : _root_.Go.ChangeSpec) : _root_.Go.OpenSpec := { _root_.Go.OpenSpec.ofChange s with cond := some uptoSmall }

/-- 'emendatelaw14.LexrepairDistance', WHERE WHAT IT READS IS OF BULK AT MOST 1048576: true; the input reads as it did. -/
def lexrepairDistanceUptoRow : OpenClaim := { program := "ytjdmfabmacdpgaa", sum := "080a2126d644b8169905e77288f92be44e029dc5236e744356b50acec7069eef", func := "emendate/emendatelaw14.LexrepairDistance", spec := "lexrepairDistance", inPlace := ["internal/bytealg.IndexByteString", "internal/bytealg.IndexString"], unfollowed := true, recurses := true, named := ["internal/bytealg.MaxLen"], apart := false, narrowed := true }
def LexrepairDistanceUptoSaid : Prop := lexrepairDistanceUptoRow.holds Try.pinned (OpenSpec.upto lexrepairDistanceSpec)

/-- 'emendatelaw14.LexrepairDistanceBounds', WHERE WHAT IT READS IS OF BULK AT MOST 1048576: true; the input reads as it did. -/
def lexrepairDistanceBoundsUptoRow : OpenClaim := { program := "ytjdmfabmacdpgaa", sum := "080a2126d644b8169905e77288f92be44e029dc5236e744356b50acec7069eef", func := "emendate/emendatelaw14.LexrepairDistanceBounds", spec := "lexrepairDistanceBounds", inPlace := ["internal/bytealg.IndexByteString", "internal/bytealg.IndexString"], unfollowed := true, recurses := true, named := ["internal/bytealg.MaxLen"], apart := false, narrowed := true }
def LexrepairDistanceBoundsUptoSaid : Prop := lexrepairDistanceBoundsUptoRow.holds Try.pinned (OpenSpec.upto lexrepairDistanceBoundsSpec)

/-- 'emendatelaw14.LexrepairSingleEdit', WHERE WHAT IT READS IS OF BULK AT MOST 1048576: true; the input reads as it did. -/
def lexrepairSingleEditUptoRow : OpenClaim := { program := "ytjdmfabmacdpgaa", sum := "080a2126d644b8169905e77288f92be44e029dc5236e744356b50acec7069eef", func := "emendate/emendatelaw14.LexrepairSingleEdit", spec := "lexrepairSingleEdit", inPlace := ["internal/bytealg.IndexByteString", "internal/bytealg.IndexString"], unfollowed := true, recurses := true, named := ["internal/bytealg.MaxLen"], apart := false, narrowed := true }
def LexrepairSingleEditUptoSaid : Prop := lexrepairSingleEditUptoRow.holds Try.pinned (OpenSpec.upto lexrepairSingleEditSpec)

end Rows
end Go.Proofs.Ytjdmfabmacdpgaa
