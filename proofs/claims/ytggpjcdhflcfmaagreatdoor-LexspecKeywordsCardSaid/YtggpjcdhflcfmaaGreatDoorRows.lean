/-
  NARROWER THAN 'FOR EVERY INPUT', by the rows' own cells (each row's printed sentence says how): LexspecTerms: laid · LexspecSamples: laid · LexspecKeywords: laid · LexspecPrefix: laid.
  DERIVED. THE GIVEN ROWS OF THIS SEAT. 4 by the template 'for every input the law returns true; each argument reads behind the call as it read before'; 0 by the template 'total and deterministic' (their statements: YtggpjcdhflcfmaaGreatDoorTotals.lean).
  GIVEN WITH THE SEED: the statements are not yours to turn. If you find one false, say at which input.
  Laid BY PROGRAM, IN A SANDBOX (cutbox-rows.mjs): the forced cells as the released guide's own fill.sh prints them over the translation 96beae882bd1fe0a… (all of the seat's roots in one cut). By AI agents, Wed Nov 11 2026. No macro, syntax, notation, axiom, sorry.
-/
import Derived.Test.YtggpjcdhflcfmaaGreatDoorChecked
import GoSem.Claim
import GoSem.ClaimJoined
import GoSem.ClaimMapViews
import Derived.JoinedTies
import Derived.KernelRfl
namespace Go.Proofs.YtggpjcdhflcfmaaGreatDoor
/- THE CELL 'sum', in the pinned program and in every row, IS THE sha256 OF THE DUMP (.gsa) THAT YtggpjcdhflcfmaaGreatDoorProg.lean LOADS. Nothing in Lean hashes anything: it is a label: what it is worth is what the hold of that sum in a sandbox is worth. -/
noncomputable def Tryz.pinned : Pinned := { name := "ytggpjcdhflcfmaagreatdoor", sum := "96beae882bd1fe0a9d722403fd9fa7f0cee69051216b3a428cf5fd1884ee3a06", checked := Tryz.checked }
namespace Rows
def none {H : Type} : Left H := { results := [], args := [] }

/- WHAT THE LISTED PACKAGE-LEVEL VARIABLES READ AS WHEN THE CALL BEGINS. Each datum BY PROGRAM (the guide's laid-datum.mjs) off the statement by which the dump's own 'gosem.cut.vars' lays the variable. In a bare row this is a premise. The card (YtggpjcdhflcfmaaGreatDoorCards.lean) ties it to the program's text. -/
def laid_emendate_lexspec_layoutTerms {H : Type} : DataW H := .agg [.lit (.string [110, 101, 119, 108, 105, 110, 101]), .lit (.string [105, 110, 100, 101, 110, 116]), .lit (.string [100, 101, 100, 101, 110, 116])]

/-- 'emendatelaw11.LexspecTerms': WHATEVER THE INPUT: true; the input reads as it did. -/
def lexspecTermsSpec : ChangeSpec := { name := "lexspecTerms", fn := fun _ => fun
  | [d1, d2] => { results := [.lit (.bool true)], args := [d1, d2] }
  | _ => none }
def lexspecTermsRow : OpenClaim := { program := "ytggpjcdhflcfmaagreatdoor", sum := "96beae882bd1fe0a9d722403fd9fa7f0cee69051216b3a428cf5fd1884ee3a06", func := "emendate/emendatelaw11.LexspecTerms", spec := "lexspecTerms", inPlace := ["internal/bytealg.IndexByteString"], unfollowed := true, recurses := true, named := ["emendate/lexspec.layoutTerms"], plainKeys := false, apart := false, laid := [("emendate/lexspec.layoutTerms", laid_emendate_lexspec_layoutTerms)] }
def LexspecTermsSaid : Prop := lexspecTermsRow.holds Tryz.pinned (OpenSpec.ofChange lexspecTermsSpec)

/-- ITS FALSE NEIGHBOUR: 'it returns false'. Refute it at one input. -/
def lexspecTermsWrong : ChangeSpec := { name := "lexspecTerms", fn := fun _ => fun
  | [d1, d2] => { results := [.lit (.bool false)], args := [d1, d2] }
  | _ => none }
def LexspecTermsWrongFalsely : Prop := lexspecTermsRow.holds Tryz.pinned (OpenSpec.ofChange lexspecTermsWrong)

/-- 'emendatelaw11.LexspecSamples': WHATEVER THE INPUT: true; the input reads as it did. -/
def lexspecSamplesSpec : ChangeSpec := { name := "lexspecSamples", fn := fun _ => fun
  | [d] => { results := [.lit (.bool true)], args := [d] }
  | _ => none }
def lexspecSamplesRow : OpenClaim := { program := "ytggpjcdhflcfmaagreatdoor", sum := "96beae882bd1fe0a9d722403fd9fa7f0cee69051216b3a428cf5fd1884ee3a06", func := "emendate/emendatelaw11.LexspecSamples", spec := "lexspecSamples", inPlace := ["internal/bytealg.IndexByteString"], unfollowed := true, recurses := true, named := ["emendate/lexspec.layoutTerms"], plainKeys := false, apart := false, laid := [("emendate/lexspec.layoutTerms", laid_emendate_lexspec_layoutTerms)] }
def LexspecSamplesSaid : Prop := lexspecSamplesRow.holds Tryz.pinned (OpenSpec.ofChange lexspecSamplesSpec)

/-- ITS FALSE NEIGHBOUR: 'it returns false'. Refute it at one input. -/
def lexspecSamplesWrong : ChangeSpec := { name := "lexspecSamples", fn := fun _ => fun
  | [d] => { results := [.lit (.bool false)], args := [d] }
  | _ => none }
def LexspecSamplesWrongFalsely : Prop := lexspecSamplesRow.holds Tryz.pinned (OpenSpec.ofChange lexspecSamplesWrong)

/-- 'emendatelaw11.LexspecKeywords': WHATEVER THE INPUT: true; the input reads as it did. -/
def lexspecKeywordsSpec : ChangeSpec := { name := "lexspecKeywords", fn := fun _ => fun
  | [d1, d2] => { results := [.lit (.bool true)], args := [d1, d2] }
  | _ => none }
def lexspecKeywordsRow : OpenClaim := { program := "ytggpjcdhflcfmaagreatdoor", sum := "96beae882bd1fe0a9d722403fd9fa7f0cee69051216b3a428cf5fd1884ee3a06", func := "emendate/emendatelaw11.LexspecKeywords", spec := "lexspecKeywords", inPlace := ["internal/bytealg.IndexByteString"], unfollowed := true, recurses := true, named := ["emendate/lexspec.layoutTerms"], plainKeys := false, apart := false, laid := [("emendate/lexspec.layoutTerms", laid_emendate_lexspec_layoutTerms)] }
def LexspecKeywordsSaid : Prop := lexspecKeywordsRow.holds Tryz.pinned (OpenSpec.ofChange lexspecKeywordsSpec)

/-- ITS FALSE NEIGHBOUR: 'it returns false'. Refute it at one input. -/
def lexspecKeywordsWrong : ChangeSpec := { name := "lexspecKeywords", fn := fun _ => fun
  | [d1, d2] => { results := [.lit (.bool false)], args := [d1, d2] }
  | _ => none }
def LexspecKeywordsWrongFalsely : Prop := lexspecKeywordsRow.holds Tryz.pinned (OpenSpec.ofChange lexspecKeywordsWrong)

/-- 'emendatelaw11.LexspecPrefix': WHATEVER THE INPUT: true; the input reads as it did. -/
def lexspecPrefixSpec : ChangeSpec := { name := "lexspecPrefix", fn := fun _ => fun
  | [d1, d2] => { results := [.lit (.bool true)], args := [d1, d2] }
  | _ => none }
def lexspecPrefixRow : OpenClaim := { program := "ytggpjcdhflcfmaagreatdoor", sum := "96beae882bd1fe0a9d722403fd9fa7f0cee69051216b3a428cf5fd1884ee3a06", func := "emendate/emendatelaw11.LexspecPrefix", spec := "lexspecPrefix", inPlace := ["internal/bytealg.IndexByteString"], unfollowed := true, recurses := true, named := ["emendate/lexspec.layoutTerms"], plainKeys := false, apart := false, laid := [("emendate/lexspec.layoutTerms", laid_emendate_lexspec_layoutTerms)] }
def LexspecPrefixSaid : Prop := lexspecPrefixRow.holds Tryz.pinned (OpenSpec.ofChange lexspecPrefixSpec)

/-- ITS FALSE NEIGHBOUR: 'it returns false'. Refute it at one input. -/
def lexspecPrefixWrong : ChangeSpec := { name := "lexspecPrefix", fn := fun _ => fun
  | [d1, d2] => { results := [.lit (.bool false)], args := [d1, d2] }
  | _ => none }
def LexspecPrefixWrongFalsely : Prop := lexspecPrefixRow.holds Tryz.pinned (OpenSpec.ofChange lexspecPrefixWrong)

/- THE SECOND FORM. 'bulk': how many values and letters a reading holds, each counted each time it is reached (what is shared counts as often as it is met; a slice's spare places count too). A statement '..UptoSaid' is the law's where the arguments, and the package variables that the reading takes, are together of bulk at most 1048576: NARROWER than '..Said'. Prove '..Said' where nothing that the law and all that it calls make is longer than what came in: it says more and counts as full. Else prove '..UptoSaid'. A law counts once. -/
mutual
def uptoBulk {H : Type} : DataW H → Nat
  | .lit (.string bytes) => bytes.length + 1
  | .lit _ => 1
  | .nil => 1
  | .ptr d => uptoBulk d + 1
  | .slice elems spare => uptoBulkAll elems + uptoBulkAll spare + 1
  | .agg parts => uptoBulkAll parts + 1
  | .iface _ d => uptoBulk d + 1
  | .map entries => uptoBulkEntries entries + 1
  | .held _ => 1
def uptoBulkAll {H : Type} : List (DataW H) → Nat
  | [] => 0
  | d :: r => uptoBulk d + uptoBulkAll r
def uptoBulkEntries {H : Type} : List (Lit × DataW H) → Nat
  | [] => 0
  | x :: r => uptoBulkEntry x + uptoBulkEntries r
def uptoBulkEntry {H : Type} : Lit × DataW H → Nat
  | (.string bytes, d) => bytes.length + uptoBulk d + 1
  | (_, d) => uptoBulk d + 1
 end
def uptoSmall : (H : Type) → List (DataW H) → Bool := fun _ ds => decide (uptoBulkAll ds ≤ 1048576)
def OpenSpec.upto (s : _root_.Go.ChangeSpec) : _root_.Go.OpenSpec := { _root_.Go.OpenSpec.ofChange s with cond := some uptoSmall }

/-- 'emendatelaw11.LexspecTerms', WHERE WHAT IT READS IS OF BULK AT MOST 1048576: true; the input reads as it did. -/
def lexspecTermsUptoRow : OpenClaim := { program := "ytggpjcdhflcfmaagreatdoor", sum := "96beae882bd1fe0a9d722403fd9fa7f0cee69051216b3a428cf5fd1884ee3a06", func := "emendate/emendatelaw11.LexspecTerms", spec := "lexspecTerms", inPlace := ["internal/bytealg.IndexByteString"], unfollowed := true, recurses := true, named := ["emendate/lexspec.layoutTerms"], plainKeys := false, apart := false, laid := [("emendate/lexspec.layoutTerms", laid_emendate_lexspec_layoutTerms)], narrowed := true }
def LexspecTermsUptoSaid : Prop := lexspecTermsUptoRow.holds Tryz.pinned (OpenSpec.upto lexspecTermsSpec)

/-- 'emendatelaw11.LexspecSamples', WHERE WHAT IT READS IS OF BULK AT MOST 1048576: true; the input reads as it did. -/
def lexspecSamplesUptoRow : OpenClaim := { program := "ytggpjcdhflcfmaagreatdoor", sum := "96beae882bd1fe0a9d722403fd9fa7f0cee69051216b3a428cf5fd1884ee3a06", func := "emendate/emendatelaw11.LexspecSamples", spec := "lexspecSamples", inPlace := ["internal/bytealg.IndexByteString"], unfollowed := true, recurses := true, named := ["emendate/lexspec.layoutTerms"], plainKeys := false, apart := false, laid := [("emendate/lexspec.layoutTerms", laid_emendate_lexspec_layoutTerms)], narrowed := true }
def LexspecSamplesUptoSaid : Prop := lexspecSamplesUptoRow.holds Tryz.pinned (OpenSpec.upto lexspecSamplesSpec)

/-- 'emendatelaw11.LexspecKeywords', WHERE WHAT IT READS IS OF BULK AT MOST 1048576: true; the input reads as it did. -/
def lexspecKeywordsUptoRow : OpenClaim := { program := "ytggpjcdhflcfmaagreatdoor", sum := "96beae882bd1fe0a9d722403fd9fa7f0cee69051216b3a428cf5fd1884ee3a06", func := "emendate/emendatelaw11.LexspecKeywords", spec := "lexspecKeywords", inPlace := ["internal/bytealg.IndexByteString"], unfollowed := true, recurses := true, named := ["emendate/lexspec.layoutTerms"], plainKeys := false, apart := false, laid := [("emendate/lexspec.layoutTerms", laid_emendate_lexspec_layoutTerms)], narrowed := true }
def LexspecKeywordsUptoSaid : Prop := lexspecKeywordsUptoRow.holds Tryz.pinned (OpenSpec.upto lexspecKeywordsSpec)

/-- 'emendatelaw11.LexspecPrefix', WHERE WHAT IT READS IS OF BULK AT MOST 1048576: true; the input reads as it did. -/
def lexspecPrefixUptoRow : OpenClaim := { program := "ytggpjcdhflcfmaagreatdoor", sum := "96beae882bd1fe0a9d722403fd9fa7f0cee69051216b3a428cf5fd1884ee3a06", func := "emendate/emendatelaw11.LexspecPrefix", spec := "lexspecPrefix", inPlace := ["internal/bytealg.IndexByteString"], unfollowed := true, recurses := true, named := ["emendate/lexspec.layoutTerms"], plainKeys := false, apart := false, laid := [("emendate/lexspec.layoutTerms", laid_emendate_lexspec_layoutTerms)], narrowed := true }
def LexspecPrefixUptoSaid : Prop := lexspecPrefixUptoRow.holds Tryz.pinned (OpenSpec.upto lexspecPrefixSpec)

end Rows
end Go.Proofs.YtggpjcdhflcfmaaGreatDoor
