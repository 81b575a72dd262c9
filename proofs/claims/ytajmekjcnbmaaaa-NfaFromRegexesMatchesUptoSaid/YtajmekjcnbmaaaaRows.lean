/-
  NARROWER THAN 'FOR EVERY INPUT', by the rows' own cells (each row's printed sentence says how): NfaFromRegexesMatches: loops · NfaFromRegexesErrors: loops.
  DERIVED. THE GIVEN ROWS OF THIS SEAT. 8 by the template 'for every input the law returns true; each argument reads behind the call as it read before'; 0 by the template 'total and deterministic' (their statements: YtajmekjcnbmaaaaTotals.lean).
  GIVEN WITH THE SEED: the statements are not yours to turn. If you find one false, say at which input.
  Laid BY PROGRAM, IN A SANDBOX (cutbox-rows.mjs): the forced cells as the released guide's own fill.sh prints them over the translation 76b65db1ddc2d0cc… (all of the seat's roots in one cut). By AI agents, Wed Nov 11 2026. No macro, syntax, notation, axiom, sorry.
-/
import Derived.Test.YtajmekjcnbmaaaaChecked
import GoSem.Claim
import GoSem.ClaimJoined
import GoSem.ClaimMapViews
import Derived.JoinedTies
import Derived.KernelRfl
namespace Go.Proofs.Ytajmekjcnbmaaaa
/- THE CELL 'sum', in the pinned program and in every row, IS THE sha256 OF THE DUMP (.gsa) THAT YtajmekjcnbmaaaaProg.lean LOADS. Nothing in Lean hashes anything: it is a label: what it is worth is what the hold of that sum in a sandbox is worth. -/
noncomputable def Try.pinned : Pinned := { name := "ytajmekjcnbmaaaa", sum := "76b65db1ddc2d0cc02a6839201a1d72338acced76ef32bb102bdee767531d1e3", checked := Try.checked }
namespace Rows
def none {H : Type} : Left H := { results := [], args := [] }

/-- 'emendatelaw09.NfaValidMatchesReference': WHATEVER THE INPUT: true; the input reads as it did. -/
def nfaValidMatchesReferenceSpec : ChangeSpec := { name := "nfaValidMatchesReference", fn := fun _ => fun
  | [d] => { results := [.lit (.bool true)], args := [d] }
  | _ => none }
def nfaValidMatchesReferenceRow : OpenClaim := { program := "ytajmekjcnbmaaaa", sum := "76b65db1ddc2d0cc02a6839201a1d72338acced76ef32bb102bdee767531d1e3", func := "emendate/emendatelaw09.NfaValidMatchesReference", spec := "nfaValidMatchesReference", unfollowed := true, recurses := true, apart := false }
def NfaValidMatchesReferenceSaid : Prop := nfaValidMatchesReferenceRow.holds Try.pinned (OpenSpec.ofChange nfaValidMatchesReferenceSpec)

/-- ITS FALSE NEIGHBOUR: 'it returns false'. Refute it at one input. -/
def nfaValidMatchesReferenceWrong : ChangeSpec := { name := "nfaValidMatchesReference", fn := fun _ => fun
  | [d] => { results := [.lit (.bool false)], args := [d] }
  | _ => none }
def NfaValidMatchesReferenceWrongFalsely : Prop := nfaValidMatchesReferenceRow.holds Try.pinned (OpenSpec.ofChange nfaValidMatchesReferenceWrong)

/-- 'emendatelaw09.NfaClosureIsLeastFixpoint': WHATEVER THE INPUT: true; the input reads as it did. -/
def nfaClosureIsLeastFixpointSpec : ChangeSpec := { name := "nfaClosureIsLeastFixpoint", fn := fun _ => fun
  | [d1, d2] => { results := [.lit (.bool true)], args := [d1, d2] }
  | _ => none }
def nfaClosureIsLeastFixpointRow : OpenClaim := { program := "ytajmekjcnbmaaaa", sum := "76b65db1ddc2d0cc02a6839201a1d72338acced76ef32bb102bdee767531d1e3", func := "emendate/emendatelaw09.NfaClosureIsLeastFixpoint", spec := "nfaClosureIsLeastFixpoint", unfollowed := true, recurses := true, apart := false }
def NfaClosureIsLeastFixpointSaid : Prop := nfaClosureIsLeastFixpointRow.holds Try.pinned (OpenSpec.ofChange nfaClosureIsLeastFixpointSpec)

/-- ITS FALSE NEIGHBOUR: 'it returns false'. Refute it at one input. -/
def nfaClosureIsLeastFixpointWrong : ChangeSpec := { name := "nfaClosureIsLeastFixpoint", fn := fun _ => fun
  | [d1, d2] => { results := [.lit (.bool false)], args := [d1, d2] }
  | _ => none }
def NfaClosureIsLeastFixpointWrongFalsely : Prop := nfaClosureIsLeastFixpointRow.holds Try.pinned (OpenSpec.ofChange nfaClosureIsLeastFixpointWrong)

/-- 'emendatelaw09.NfaStepMatchesReference': WHATEVER THE INPUT: true; the input reads as it did. -/
def nfaStepMatchesReferenceSpec : ChangeSpec := { name := "nfaStepMatchesReference", fn := fun _ => fun
  | [d1, d2, d3] => { results := [.lit (.bool true)], args := [d1, d2, d3] }
  | _ => none }
def nfaStepMatchesReferenceRow : OpenClaim := { program := "ytajmekjcnbmaaaa", sum := "76b65db1ddc2d0cc02a6839201a1d72338acced76ef32bb102bdee767531d1e3", func := "emendate/emendatelaw09.NfaStepMatchesReference", spec := "nfaStepMatchesReference", unfollowed := true, recurses := true, apart := false }
def NfaStepMatchesReferenceSaid : Prop := nfaStepMatchesReferenceRow.holds Try.pinned (OpenSpec.ofChange nfaStepMatchesReferenceSpec)

/-- ITS FALSE NEIGHBOUR: 'it returns false'. Refute it at one input. -/
def nfaStepMatchesReferenceWrong : ChangeSpec := { name := "nfaStepMatchesReference", fn := fun _ => fun
  | [d1, d2, d3] => { results := [.lit (.bool false)], args := [d1, d2, d3] }
  | _ => none }
def NfaStepMatchesReferenceWrongFalsely : Prop := nfaStepMatchesReferenceRow.holds Try.pinned (OpenSpec.ofChange nfaStepMatchesReferenceWrong)

/-- 'emendatelaw09.NfaStepIsMonotone': WHATEVER THE INPUT: true; the input reads as it did. -/
def nfaStepIsMonotoneSpec : ChangeSpec := { name := "nfaStepIsMonotone", fn := fun _ => fun
  | [d1, d2, d3] => { results := [.lit (.bool true)], args := [d1, d2, d3] }
  | _ => none }
def nfaStepIsMonotoneRow : OpenClaim := { program := "ytajmekjcnbmaaaa", sum := "76b65db1ddc2d0cc02a6839201a1d72338acced76ef32bb102bdee767531d1e3", func := "emendate/emendatelaw09.NfaStepIsMonotone", spec := "nfaStepIsMonotone", unfollowed := true, recurses := true, apart := false }
def NfaStepIsMonotoneSaid : Prop := nfaStepIsMonotoneRow.holds Try.pinned (OpenSpec.ofChange nfaStepIsMonotoneSpec)

/-- ITS FALSE NEIGHBOUR: 'it returns false'. Refute it at one input. -/
def nfaStepIsMonotoneWrong : ChangeSpec := { name := "nfaStepIsMonotone", fn := fun _ => fun
  | [d1, d2, d3] => { results := [.lit (.bool false)], args := [d1, d2, d3] }
  | _ => none }
def NfaStepIsMonotoneWrongFalsely : Prop := nfaStepIsMonotoneRow.holds Try.pinned (OpenSpec.ofChange nfaStepIsMonotoneWrong)

/-- 'emendatelaw09.NfaRunMatchesReference': WHATEVER THE INPUT: true; the input reads as it did. -/
def nfaRunMatchesReferenceSpec : ChangeSpec := { name := "nfaRunMatchesReference", fn := fun _ => fun
  | [d1, d2] => { results := [.lit (.bool true)], args := [d1, d2] }
  | _ => none }
def nfaRunMatchesReferenceRow : OpenClaim := { program := "ytajmekjcnbmaaaa", sum := "76b65db1ddc2d0cc02a6839201a1d72338acced76ef32bb102bdee767531d1e3", func := "emendate/emendatelaw09.NfaRunMatchesReference", spec := "nfaRunMatchesReference", unfollowed := true, recurses := true, apart := false }
def NfaRunMatchesReferenceSaid : Prop := nfaRunMatchesReferenceRow.holds Try.pinned (OpenSpec.ofChange nfaRunMatchesReferenceSpec)

/-- ITS FALSE NEIGHBOUR: 'it returns false'. Refute it at one input. -/
def nfaRunMatchesReferenceWrong : ChangeSpec := { name := "nfaRunMatchesReference", fn := fun _ => fun
  | [d1, d2] => { results := [.lit (.bool false)], args := [d1, d2] }
  | _ => none }
def NfaRunMatchesReferenceWrongFalsely : Prop := nfaRunMatchesReferenceRow.holds Try.pinned (OpenSpec.ofChange nfaRunMatchesReferenceWrong)

/-- 'emendatelaw09.NfaRunIsCompositional': WHATEVER THE INPUT: true; the input reads as it did. -/
def nfaRunIsCompositionalSpec : ChangeSpec := { name := "nfaRunIsCompositional", fn := fun _ => fun
  | [d1, d2, d3] => { results := [.lit (.bool true)], args := [d1, d2, d3] }
  | _ => none }
def nfaRunIsCompositionalRow : OpenClaim := { program := "ytajmekjcnbmaaaa", sum := "76b65db1ddc2d0cc02a6839201a1d72338acced76ef32bb102bdee767531d1e3", func := "emendate/emendatelaw09.NfaRunIsCompositional", spec := "nfaRunIsCompositional", unfollowed := true, recurses := true, apart := false }
def NfaRunIsCompositionalSaid : Prop := nfaRunIsCompositionalRow.holds Try.pinned (OpenSpec.ofChange nfaRunIsCompositionalSpec)

/-- ITS FALSE NEIGHBOUR: 'it returns false'. Refute it at one input. -/
def nfaRunIsCompositionalWrong : ChangeSpec := { name := "nfaRunIsCompositional", fn := fun _ => fun
  | [d1, d2, d3] => { results := [.lit (.bool false)], args := [d1, d2, d3] }
  | _ => none }
def NfaRunIsCompositionalWrongFalsely : Prop := nfaRunIsCompositionalRow.holds Try.pinned (OpenSpec.ofChange nfaRunIsCompositionalWrong)

/-- 'emendatelaw09.NfaFromRegexesMatches': WHATEVER THE INPUT: true; the input reads as it did. -/
def nfaFromRegexesMatchesSpec : ChangeSpec := { name := "nfaFromRegexesMatches", fn := fun _ => fun
  | [d1, d2] => { results := [.lit (.bool true)], args := [d1, d2] }
  | _ => none }
def nfaFromRegexesMatchesRow : OpenClaim := { program := "ytajmekjcnbmaaaa", sum := "76b65db1ddc2d0cc02a6839201a1d72338acced76ef32bb102bdee767531d1e3", func := "emendate/emendatelaw09.NfaFromRegexesMatches", spec := "nfaFromRegexesMatches", unfollowed := true, recurses := true, loops := true, apart := false }
def NfaFromRegexesMatchesSaid : Prop := nfaFromRegexesMatchesRow.holds Try.pinned (OpenSpec.ofChange nfaFromRegexesMatchesSpec)

/-- ITS FALSE NEIGHBOUR: 'it returns false'. Refute it at one input. -/
def nfaFromRegexesMatchesWrong : ChangeSpec := { name := "nfaFromRegexesMatches", fn := fun _ => fun
  | [d1, d2] => { results := [.lit (.bool false)], args := [d1, d2] }
  | _ => none }
def NfaFromRegexesMatchesWrongFalsely : Prop := nfaFromRegexesMatchesRow.holds Try.pinned (OpenSpec.ofChange nfaFromRegexesMatchesWrong)

/-- 'emendatelaw09.NfaFromRegexesErrors': WHATEVER THE INPUT: true; the input reads as it did. -/
def nfaFromRegexesErrorsSpec : ChangeSpec := { name := "nfaFromRegexesErrors", fn := fun _ => fun
  | [d] => { results := [.lit (.bool true)], args := [d] }
  | _ => none }
def nfaFromRegexesErrorsRow : OpenClaim := { program := "ytajmekjcnbmaaaa", sum := "76b65db1ddc2d0cc02a6839201a1d72338acced76ef32bb102bdee767531d1e3", func := "emendate/emendatelaw09.NfaFromRegexesErrors", spec := "nfaFromRegexesErrors", unfollowed := true, recurses := true, loops := true, apart := false }
def NfaFromRegexesErrorsSaid : Prop := nfaFromRegexesErrorsRow.holds Try.pinned (OpenSpec.ofChange nfaFromRegexesErrorsSpec)

/-- ITS FALSE NEIGHBOUR: 'it returns false'. Refute it at one input. -/
def nfaFromRegexesErrorsWrong : ChangeSpec := { name := "nfaFromRegexesErrors", fn := fun _ => fun
  | [d] => { results := [.lit (.bool false)], args := [d] }
  | _ => none }
def NfaFromRegexesErrorsWrongFalsely : Prop := nfaFromRegexesErrorsRow.holds Try.pinned (OpenSpec.ofChange nfaFromRegexesErrorsWrong)

/- THE SECOND FORM. 'bulk': how many values and letters a reading holds, each counted each time it is reached (what is shared counts as often as it is met; a slice's spare places count too). A statement '..UptoSaid' is the law's where the arguments, and the package variables that the reading takes, are together of bulk at most 1048576: NARROWER than '..Said'. Prove '..Said' where nothing that the law and all that it calls make is longer than what came in: it says more and counts as full. Else prove '..UptoSaid'. A law counts once. -/
mutual
def uptoBulk {H : Type} : DataW H → Nat
  | .lit (.string bytes) => bytes.length + 1
  | .lit _ => 1
  | .nil => 1
  | .ptr d => uptoBulk d + 1
  | .slice elems spare => uptoBulkAll elems + uptoBulkAll spare + 1
  | .agg parts => uptoBulkAll parts + 1
  | .iface _ d => uptoBulk d + 1
  | .map entries => uptoBulkEntries entries + 1
  | .held _ => 1
def uptoBulkAll {H : Type} : List (DataW H) → Nat
  | [] => 0
  | d :: r => uptoBulk d + uptoBulkAll r
def uptoBulkEntries {H : Type} : List (Lit × DataW H) → Nat
  | [] => 0
  | x :: r => uptoBulkEntry x + uptoBulkEntries r
def uptoBulkEntry {H : Type} : Lit × DataW H → Nat
  | (.string bytes, d) => bytes.length + uptoBulk d + 1
  | (_, d) => uptoBulk d + 1
 end
def uptoSmall : (H : Type) → List (DataW H) → Bool := fun _ ds => decide (uptoBulkAll ds ≤ 1048576)
def OpenSpec.upto (s : _root_.Go.ChangeSpec) : _root_.Go.OpenSpec := { _root_.Go.OpenSpec.ofChange s with cond := some uptoSmall }

/-- 'emendatelaw09.NfaValidMatchesReference', WHERE WHAT IT READS IS OF BULK AT MOST 1048576: true; the input reads as it did. -/
def nfaValidMatchesReferenceUptoRow : OpenClaim := { program := "ytajmekjcnbmaaaa", sum := "76b65db1ddc2d0cc02a6839201a1d72338acced76ef32bb102bdee767531d1e3", func := "emendate/emendatelaw09.NfaValidMatchesReference", spec := "nfaValidMatchesReference", unfollowed := true, recurses := true, apart := false, narrowed := true }
def NfaValidMatchesReferenceUptoSaid : Prop := nfaValidMatchesReferenceUptoRow.holds Try.pinned (OpenSpec.upto nfaValidMatchesReferenceSpec)

/-- 'emendatelaw09.NfaClosureIsLeastFixpoint', WHERE WHAT IT READS IS OF BULK AT MOST 1048576: true; the input reads as it did. -/
def nfaClosureIsLeastFixpointUptoRow : OpenClaim := { program := "ytajmekjcnbmaaaa", sum := "76b65db1ddc2d0cc02a6839201a1d72338acced76ef32bb102bdee767531d1e3", func := "emendate/emendatelaw09.NfaClosureIsLeastFixpoint", spec := "nfaClosureIsLeastFixpoint", unfollowed := true, recurses := true, apart := false, narrowed := true }
def NfaClosureIsLeastFixpointUptoSaid : Prop := nfaClosureIsLeastFixpointUptoRow.holds Try.pinned (OpenSpec.upto nfaClosureIsLeastFixpointSpec)

/-- 'emendatelaw09.NfaStepMatchesReference', WHERE WHAT IT READS IS OF BULK AT MOST 1048576: true; the input reads as it did. -/
def nfaStepMatchesReferenceUptoRow : OpenClaim := { program := "ytajmekjcnbmaaaa", sum := "76b65db1ddc2d0cc02a6839201a1d72338acced76ef32bb102bdee767531d1e3", func := "emendate/emendatelaw09.NfaStepMatchesReference", spec := "nfaStepMatchesReference", unfollowed := true, recurses := true, apart := false, narrowed := true }
def NfaStepMatchesReferenceUptoSaid : Prop := nfaStepMatchesReferenceUptoRow.holds Try.pinned (OpenSpec.upto nfaStepMatchesReferenceSpec)

/-- 'emendatelaw09.NfaStepIsMonotone', WHERE WHAT IT READS IS OF BULK AT MOST 1048576: true; the input reads as it did. -/
def nfaStepIsMonotoneUptoRow : OpenClaim := { program := "ytajmekjcnbmaaaa", sum := "76b65db1ddc2d0cc02a6839201a1d72338acced76ef32bb102bdee767531d1e3", func := "emendate/emendatelaw09.NfaStepIsMonotone", spec := "nfaStepIsMonotone", unfollowed := true, recurses := true, apart := false, narrowed := true }
def NfaStepIsMonotoneUptoSaid : Prop := nfaStepIsMonotoneUptoRow.holds Try.pinned (OpenSpec.upto nfaStepIsMonotoneSpec)

/-- 'emendatelaw09.NfaRunMatchesReference', WHERE WHAT IT READS IS OF BULK AT MOST 1048576: true; the input reads as it did. -/
def nfaRunMatchesReferenceUptoRow : OpenClaim := { program := "ytajmekjcnbmaaaa", sum := "76b65db1ddc2d0cc02a6839201a1d72338acced76ef32bb102bdee767531d1e3", func := "emendate/emendatelaw09.NfaRunMatchesReference", spec := "nfaRunMatchesReference", unfollowed := true, recurses := true, apart := false, narrowed := true }
def NfaRunMatchesReferenceUptoSaid : Prop := nfaRunMatchesReferenceUptoRow.holds Try.pinned (OpenSpec.upto nfaRunMatchesReferenceSpec)

/-- 'emendatelaw09.NfaRunIsCompositional', WHERE WHAT IT READS IS OF BULK AT MOST 1048576: true; the input reads as it did. -/
def nfaRunIsCompositionalUptoRow : OpenClaim := { program := "ytajmekjcnbmaaaa", sum := "76b65db1ddc2d0cc02a6839201a1d72338acced76ef32bb102bdee767531d1e3", func := "emendate/emendatelaw09.NfaRunIsCompositional", spec := "nfaRunIsCompositional", unfollowed := true, recurses := true, apart := false, narrowed := true }
def NfaRunIsCompositionalUptoSaid : Prop := nfaRunIsCompositionalUptoRow.holds Try.pinned (OpenSpec.upto nfaRunIsCompositionalSpec)

/-- 'emendatelaw09.NfaFromRegexesMatches', WHERE WHAT IT READS IS OF BULK AT MOST 1048576: true; the input reads as it did. -/
def nfaFromRegexesMatchesUptoRow : OpenClaim := { program := "ytajmekjcnbmaaaa", sum := "76b65db1ddc2d0cc02a6839201a1d72338acced76ef32bb102bdee767531d1e3", func := "emendate/emendatelaw09.NfaFromRegexesMatches", spec := "nfaFromRegexesMatches", unfollowed := true, recurses := true, loops := true, apart := false, narrowed := true }
def NfaFromRegexesMatchesUptoSaid : Prop := nfaFromRegexesMatchesUptoRow.holds Try.pinned (OpenSpec.upto nfaFromRegexesMatchesSpec)

/-- 'emendatelaw09.NfaFromRegexesErrors', WHERE WHAT IT READS IS OF BULK AT MOST 1048576: true; the input reads as it did. -/
def nfaFromRegexesErrorsUptoRow : OpenClaim := { program := "ytajmekjcnbmaaaa", sum := "76b65db1ddc2d0cc02a6839201a1d72338acced76ef32bb102bdee767531d1e3", func := "emendate/emendatelaw09.NfaFromRegexesErrors", spec := "nfaFromRegexesErrors", unfollowed := true, recurses := true, loops := true, apart := false, narrowed := true }
def NfaFromRegexesErrorsUptoSaid : Prop := nfaFromRegexesErrorsUptoRow.holds Try.pinned (OpenSpec.upto nfaFromRegexesErrorsSpec)

end Rows
end Go.Proofs.Ytajmekjcnbmaaaa
