/-
  No cell of these rows narrows 'for every input' (looked for: loops, veiled, ifaces, maps, wideKeys, modest, calm, conditions, laid).
  DERIVED. THE GIVEN ROWS OF THIS SEAT. 4 by the template 'for every input the law returns true; each argument reads behind the call as it read before'; 0 by the template 'total and deterministic' (their statements: YtlcdifnmkafcfaaGreatTotals.lean).
  GIVEN WITH THE SEED: the statements are not yours to turn. If you find one false, say at which input.
  Laid BY PROGRAM, IN A SANDBOX (cutbox-rows.mjs): the forced cells as the released guide's own fill.sh prints them over the translation 6a4353cfb2c93e6f… (all of the seat's roots in one cut). By AI agents, Wed Nov 11 2026. No macro, syntax, notation, axiom, sorry.
-/
import Derived.Test.YtlcdifnmkafcfaaGreatChecked
import GoSem.Claim
import GoSem.ClaimJoined
import GoSem.ClaimMapViews
import Derived.JoinedTies
import Derived.KernelRfl
namespace Go.Proofs.YtlcdifnmkafcfaaGreat
/- THE CELL 'sum', in the pinned program and in every row, IS THE sha256 OF THE DUMP (.gsa) THAT YtlcdifnmkafcfaaGreatProg.lean LOADS. Nothing in Lean hashes anything: it is a label: what it is worth is what the hold of that sum in a sandbox is worth. -/
noncomputable def Tryz.pinned : Pinned := { name := "ytlcdifnmkafcfaagreat", sum := "6a4353cfb2c93e6f15df360eabf39c6b79aa9b65129fe099938431033c9b129a", checked := Tryz.checked }
namespace Rows
def none {H : Type} : Left H := { results := [], args := [] }

/-- 'emendatelaw14.LexrepairMerge': WHATEVER THE INPUT: true; the input reads as it did. -/
def lexrepairMergeSpec : ChangeSpec := { name := "lexrepairMerge", fn := fun _ => fun
  | [d1, d2] => { results := [.lit (.bool true)], args := [d1, d2] }
  | _ => none }
def lexrepairMergeRow : OpenClaim := { program := "ytlcdifnmkafcfaagreat", sum := "6a4353cfb2c93e6f15df360eabf39c6b79aa9b65129fe099938431033c9b129a", func := "emendate/emendatelaw14.LexrepairMerge", spec := "lexrepairMerge", inPlace := ["internal/bytealg.IndexByteString", "internal/bytealg.IndexString"], unfollowed := true, recurses := true, named := ["internal/bytealg.MaxLen"], apart := false }
def LexrepairMergeSaid : Prop := lexrepairMergeRow.holds Tryz.pinned (OpenSpec.ofChange lexrepairMergeSpec)

/-- ITS FALSE NEIGHBOUR: 'it returns false'. Refute it at one input. -/
def lexrepairMergeWrong : ChangeSpec := { name := "lexrepairMerge", fn := fun _ => fun
  | [d1, d2] => { results := [.lit (.bool false)], args := [d1, d2] }
  | _ => none }
def LexrepairMergeWrongFalsely : Prop := lexrepairMergeRow.holds Tryz.pinned (OpenSpec.ofChange lexrepairMergeWrong)

/-- 'emendatelaw14.LexrepairMergeSequence': WHATEVER THE INPUT: true; the input reads as it did. -/
def lexrepairMergeSequenceSpec : ChangeSpec := { name := "lexrepairMergeSequence", fn := fun _ => fun
  | [d1, d2] => { results := [.lit (.bool true)], args := [d1, d2] }
  | _ => none }
def lexrepairMergeSequenceRow : OpenClaim := { program := "ytlcdifnmkafcfaagreat", sum := "6a4353cfb2c93e6f15df360eabf39c6b79aa9b65129fe099938431033c9b129a", func := "emendate/emendatelaw14.LexrepairMergeSequence", spec := "lexrepairMergeSequence", inPlace := ["internal/bytealg.IndexByteString", "internal/bytealg.IndexString"], unfollowed := true, recurses := true, named := ["internal/bytealg.MaxLen"], apart := false }
def LexrepairMergeSequenceSaid : Prop := lexrepairMergeSequenceRow.holds Tryz.pinned (OpenSpec.ofChange lexrepairMergeSequenceSpec)

/-- ITS FALSE NEIGHBOUR: 'it returns false'. Refute it at one input. -/
def lexrepairMergeSequenceWrong : ChangeSpec := { name := "lexrepairMergeSequence", fn := fun _ => fun
  | [d1, d2] => { results := [.lit (.bool false)], args := [d1, d2] }
  | _ => none }
def LexrepairMergeSequenceWrongFalsely : Prop := lexrepairMergeSequenceRow.holds Tryz.pinned (OpenSpec.ofChange lexrepairMergeSequenceWrong)

/-- 'emendatelaw14.LexrepairMergeKeepsText': WHATEVER THE INPUT: true; the input reads as it did. -/
def lexrepairMergeKeepsTextSpec : ChangeSpec := { name := "lexrepairMergeKeepsText", fn := fun _ => fun
  | [d1, d2] => { results := [.lit (.bool true)], args := [d1, d2] }
  | _ => none }
def lexrepairMergeKeepsTextRow : OpenClaim := { program := "ytlcdifnmkafcfaagreat", sum := "6a4353cfb2c93e6f15df360eabf39c6b79aa9b65129fe099938431033c9b129a", func := "emendate/emendatelaw14.LexrepairMergeKeepsText", spec := "lexrepairMergeKeepsText", inPlace := ["internal/bytealg.IndexByteString", "internal/bytealg.IndexString"], unfollowed := true, recurses := true, named := ["internal/bytealg.MaxLen"], apart := false }
def LexrepairMergeKeepsTextSaid : Prop := lexrepairMergeKeepsTextRow.holds Tryz.pinned (OpenSpec.ofChange lexrepairMergeKeepsTextSpec)

/-- ITS FALSE NEIGHBOUR: 'it returns false'. Refute it at one input. -/
def lexrepairMergeKeepsTextWrong : ChangeSpec := { name := "lexrepairMergeKeepsText", fn := fun _ => fun
  | [d1, d2] => { results := [.lit (.bool false)], args := [d1, d2] }
  | _ => none }
def LexrepairMergeKeepsTextWrongFalsely : Prop := lexrepairMergeKeepsTextRow.holds Tryz.pinned (OpenSpec.ofChange lexrepairMergeKeepsTextWrong)

/-- 'emendatelaw14.LexrepairConfusions': WHATEVER THE INPUT: true; the input reads as it did. -/
def lexrepairConfusionsSpec : ChangeSpec := { name := "lexrepairConfusions", fn := fun _ => fun
  | [d1, d2] => { results := [.lit (.bool true)], args := [d1, d2] }
  | _ => none }
def lexrepairConfusionsRow : OpenClaim := { program := "ytlcdifnmkafcfaagreat", sum := "6a4353cfb2c93e6f15df360eabf39c6b79aa9b65129fe099938431033c9b129a", func := "emendate/emendatelaw14.LexrepairConfusions", spec := "lexrepairConfusions", inPlace := ["internal/bytealg.IndexByteString", "internal/bytealg.IndexString"], unfollowed := true, recurses := true, named := ["internal/bytealg.MaxLen"], apart := false }
def LexrepairConfusionsSaid : Prop := lexrepairConfusionsRow.holds Tryz.pinned (OpenSpec.ofChange lexrepairConfusionsSpec)

/-- ITS FALSE NEIGHBOUR: 'it returns false'. Refute it at one input. -/
def lexrepairConfusionsWrong : ChangeSpec := { name := "lexrepairConfusions", fn := fun _ => fun
  | [d1, d2] => { results := [.lit (.bool false)], args := [d1, d2] }
  | _ => none }
def LexrepairConfusionsWrongFalsely : Prop := lexrepairConfusionsRow.holds Tryz.pinned (OpenSpec.ofChange lexrepairConfusionsWrong)

/- THE SECOND FORM. 'bulk': how many values and letters a reading holds, each counted each time it is reached (what is shared counts as often as it is met; a slice's spare places count too). A statement '..UptoSaid' is the law's where the arguments, and the package variables that the reading takes, are together of bulk at most 1048576: NARROWER than '..Said'. Prove '..Said' where nothing that the law and all that it calls make is longer than what came in: it says more and counts as full. Else prove '..UptoSaid'. A law counts once. -/
mutual
def uptoBulk {H : Type} : DataW H → Nat
  | .lit (.string bytes) => bytes.length + 1
  | .lit _ => 1
  | .nil => 1
  | .ptr d => uptoBulk d + 1
  | .slice elems spare => uptoBulkAll elems + uptoBulkAll spare + 1
  | .agg parts => uptoBulkAll parts + 1
  | .iface _ d => uptoBulk d + 1
  | .map entries => uptoBulkEntries entries + 1
  | .held _ => 1
def uptoBulkAll {H : Type} : List (DataW H) → Nat
  | [] => 0
  | d :: r => uptoBulk d + uptoBulkAll r
def uptoBulkEntries {H : Type} : List (Lit × DataW H) → Nat
  | [] => 0
  | x :: r => uptoBulkEntry x + uptoBulkEntries r
def uptoBulkEntry {H : Type} : Lit × DataW H → Nat
  | (.string bytes, d) => bytes.length + uptoBulk d + 1
  | (_, d) => uptoBulk d + 1
 end
def uptoSmall : (H : Type) → List (DataW H) → Bool := fun _ ds => decide (uptoBulkAll ds ≤ 1048576)
def OpenSpec.upto (s : _root_.Go.ChangeSpec) : _root_.Go.OpenSpec := { _root_.Go.OpenSpec.ofChange s with cond := some uptoSmall }

/-- 'emendatelaw14.LexrepairMerge', WHERE WHAT IT READS IS OF BULK AT MOST 1048576: true; the input reads as it did. -/
def lexrepairMergeUptoRow : OpenClaim := { program := "ytlcdifnmkafcfaagreat", sum := "6a4353cfb2c93e6f15df360eabf39c6b79aa9b65129fe099938431033c9b129a", func := "emendate/emendatelaw14.LexrepairMerge", spec := "lexrepairMerge", inPlace := ["internal/bytealg.IndexByteString", "internal/bytealg.IndexString"], unfollowed := true, recurses := true, named := ["internal/bytealg.MaxLen"], apart := false, narrowed := true }
def LexrepairMergeUptoSaid : Prop := lexrepairMergeUptoRow.holds Tryz.pinned (OpenSpec.upto lexrepairMergeSpec)

/-- 'emendatelaw14.LexrepairMergeSequence', WHERE WHAT IT READS IS OF BULK AT MOST 1048576: true; the input reads as it did. -/
def lexrepairMergeSequenceUptoRow : OpenClaim := { program := "ytlcdifnmkafcfaagreat", sum := "6a4353cfb2c93e6f15df360eabf39c6b79aa9b65129fe099938431033c9b129a", func := "emendate/emendatelaw14.LexrepairMergeSequence", spec := "lexrepairMergeSequence", inPlace := ["internal/bytealg.IndexByteString", "internal/bytealg.IndexString"], unfollowed := true, recurses := true, named := ["internal/bytealg.MaxLen"], apart := false, narrowed := true }
def LexrepairMergeSequenceUptoSaid : Prop := lexrepairMergeSequenceUptoRow.holds Tryz.pinned (OpenSpec.upto lexrepairMergeSequenceSpec)

/-- 'emendatelaw14.LexrepairMergeKeepsText', WHERE WHAT IT READS IS OF BULK AT MOST 1048576: true; the input reads as it did. -/
def lexrepairMergeKeepsTextUptoRow : OpenClaim := { program := "ytlcdifnmkafcfaagreat", sum := "6a4353cfb2c93e6f15df360eabf39c6b79aa9b65129fe099938431033c9b129a", func := "emendate/emendatelaw14.LexrepairMergeKeepsText", spec := "lexrepairMergeKeepsText", inPlace := ["internal/bytealg.IndexByteString", "internal/bytealg.IndexString"], unfollowed := true, recurses := true, named := ["internal/bytealg.MaxLen"], apart := false, narrowed := true }
def LexrepairMergeKeepsTextUptoSaid : Prop := lexrepairMergeKeepsTextUptoRow.holds Tryz.pinned (OpenSpec.upto lexrepairMergeKeepsTextSpec)

/-- 'emendatelaw14.LexrepairConfusions', WHERE WHAT IT READS IS OF BULK AT MOST 1048576: true; the input reads as it did. -/
def lexrepairConfusionsUptoRow : OpenClaim := { program := "ytlcdifnmkafcfaagreat", sum := "6a4353cfb2c93e6f15df360eabf39c6b79aa9b65129fe099938431033c9b129a", func := "emendate/emendatelaw14.LexrepairConfusions", spec := "lexrepairConfusions", inPlace := ["internal/bytealg.IndexByteString", "internal/bytealg.IndexString"], unfollowed := true, recurses := true, named := ["internal/bytealg.MaxLen"], apart := false, narrowed := true }
def LexrepairConfusionsUptoSaid : Prop := lexrepairConfusionsUptoRow.holds Tryz.pinned (OpenSpec.upto lexrepairConfusionsSpec)

end Rows
end Go.Proofs.YtlcdifnmkafcfaaGreat
