/-
  DERIVED. GIVEN WITH THE SEED: THE CARDS: each row of YtggpjcdhflcfmaaGreatDoorRows.lean that lists a variable, with what it lists TIED to the program's text (the seventh form; the later family's looks); each row that meets fmt, with fmt's text TOLD by the authors' own Lean function (tested against real Go, not proved from fmt's source: count such statements apart). THE CARD IS WHAT COUNTS. Prove the row's statement (the work); the ties are given (YtggpjcdhflcfmaaGreatDoorTie.lean); close each card by the builder's one call (the guide's Derived/Test/ToyasCard.lean, 'card_holds'). Laid BY PROGRAM, IN A SANDBOX (cutbox-door.mjs). By AI agents, Wed Nov 11 2026. No macro, syntax, notation, axiom, sorry.
-/
import Derived.Test.YtggpjcdhflcfmaaGreatDoorRows
import GoSem.ClaimSeven
namespace Go.Proofs.YtggpjcdhflcfmaaGreatDoor
namespace Rows

/-- THE TIED CARD OF 'emendatelaw11.LexspecTerms'. -/
def lexspecTermsCard : Claim7 := { stood := { row := lexspecTermsRow, standIns := [], harness := (true, "86e4b1fcf9ea11218461719120d1bf628c499bc26781daf925825fa642656a88"), looks := true }, kinds := [], alts := [], laidByText := true, laidKinds := [.widerDeep], laidTests := true, laidLooks := .later }
def LexspecTermsCardSaid : Prop := Claim7.holds Tryz.pinned (.plain (OpenSpec.ofChange lexspecTermsSpec)) lexspecTermsCard

/-- THE TIED CARD OF 'emendatelaw11.LexspecSamples'. -/
def lexspecSamplesCard : Claim7 := { stood := { row := lexspecSamplesRow, standIns := [], harness := (true, "86e4b1fcf9ea11218461719120d1bf628c499bc26781daf925825fa642656a88"), looks := true }, kinds := [], alts := [], laidByText := true, laidKinds := [.widerDeep], laidTests := true, laidLooks := .later }
def LexspecSamplesCardSaid : Prop := Claim7.holds Tryz.pinned (.plain (OpenSpec.ofChange lexspecSamplesSpec)) lexspecSamplesCard

/-- THE TIED CARD OF 'emendatelaw11.LexspecKeywords'. -/
def lexspecKeywordsCard : Claim7 := { stood := { row := lexspecKeywordsRow, standIns := [], harness := (true, "86e4b1fcf9ea11218461719120d1bf628c499bc26781daf925825fa642656a88"), looks := true }, kinds := [], alts := [], laidByText := true, laidKinds := [.widerDeep], laidTests := true, laidLooks := .later }
def LexspecKeywordsCardSaid : Prop := Claim7.holds Tryz.pinned (.plain (OpenSpec.ofChange lexspecKeywordsSpec)) lexspecKeywordsCard

/-- THE TIED CARD OF 'emendatelaw11.LexspecPrefix'. -/
def lexspecPrefixCard : Claim7 := { stood := { row := lexspecPrefixRow, standIns := [], harness := (true, "86e4b1fcf9ea11218461719120d1bf628c499bc26781daf925825fa642656a88"), looks := true }, kinds := [], alts := [], laidByText := true, laidKinds := [.widerDeep], laidTests := true, laidLooks := .later }
def LexspecPrefixCardSaid : Prop := Claim7.holds Tryz.pinned (.plain (OpenSpec.ofChange lexspecPrefixSpec)) lexspecPrefixCard

/-- THE SECOND FORM's CARD OF 'emendatelaw11.LexspecTerms'. -/
def lexspecTermsUptoCard : Claim7 := { stood := { row := lexspecTermsUptoRow, standIns := [], harness := (true, "86e4b1fcf9ea11218461719120d1bf628c499bc26781daf925825fa642656a88"), looks := true }, kinds := [], alts := [], laidByText := true, laidKinds := [.widerDeep], laidTests := true, laidLooks := .later }
def LexspecTermsUptoCardSaid : Prop := Claim7.holds Tryz.pinned (.plain (OpenSpec.upto lexspecTermsSpec)) lexspecTermsUptoCard

/-- THE SECOND FORM's CARD OF 'emendatelaw11.LexspecSamples'. -/
def lexspecSamplesUptoCard : Claim7 := { stood := { row := lexspecSamplesUptoRow, standIns := [], harness := (true, "86e4b1fcf9ea11218461719120d1bf628c499bc26781daf925825fa642656a88"), looks := true }, kinds := [], alts := [], laidByText := true, laidKinds := [.widerDeep], laidTests := true, laidLooks := .later }
def LexspecSamplesUptoCardSaid : Prop := Claim7.holds Tryz.pinned (.plain (OpenSpec.upto lexspecSamplesSpec)) lexspecSamplesUptoCard

/-- THE SECOND FORM's CARD OF 'emendatelaw11.LexspecKeywords'. -/
def lexspecKeywordsUptoCard : Claim7 := { stood := { row := lexspecKeywordsUptoRow, standIns := [], harness := (true, "86e4b1fcf9ea11218461719120d1bf628c499bc26781daf925825fa642656a88"), looks := true }, kinds := [], alts := [], laidByText := true, laidKinds := [.widerDeep], laidTests := true, laidLooks := .later }
def LexspecKeywordsUptoCardSaid : Prop := Claim7.holds Tryz.pinned (.plain (OpenSpec.upto lexspecKeywordsSpec)) lexspecKeywordsUptoCard

/-- THE SECOND FORM's CARD OF 'emendatelaw11.LexspecPrefix'. -/
def lexspecPrefixUptoCard : Claim7 := { stood := { row := lexspecPrefixUptoRow, standIns := [], harness := (true, "86e4b1fcf9ea11218461719120d1bf628c499bc26781daf925825fa642656a88"), looks := true }, kinds := [], alts := [], laidByText := true, laidKinds := [.widerDeep], laidTests := true, laidLooks := .later }
def LexspecPrefixUptoCardSaid : Prop := Claim7.holds Tryz.pinned (.plain (OpenSpec.upto lexspecPrefixSpec)) lexspecPrefixUptoCard
end Rows
end Go.Proofs.YtggpjcdhflcfmaaGreatDoor
