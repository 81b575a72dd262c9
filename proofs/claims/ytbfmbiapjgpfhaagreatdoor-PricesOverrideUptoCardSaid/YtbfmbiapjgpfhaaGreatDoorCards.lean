/-
  DERIVED. GIVEN WITH THE SEED: THE CARDS: each row of YtbfmbiapjgpfhaaGreatDoorRows.lean that lists a variable, with what it lists TIED to the program's text (the seventh form; the later family's looks); each row that meets fmt, with fmt's text TOLD by the authors' own Lean function (tested against real Go, not proved from fmt's source: count such statements apart). THE CARD IS WHAT COUNTS. Prove the row's statement (the work); the ties are given (YtbfmbiapjgpfhaaGreatDoorTie.lean); close each card by the builder's one call (the guide's Derived/Test/ToyasCard.lean, 'card_holds'). Laid BY PROGRAM, IN A SANDBOX (cutbox-door.mjs). By AI agents, Wed Nov 11 2026. No macro, syntax, notation, axiom, sorry.
-/
import Derived.Test.YtbfmbiapjgpfhaaGreatDoorRows
import GoSem.ClaimSeven
namespace Go.Proofs.YtbfmbiapjgpfhaaGreatDoor
namespace Rows

/-- THE TIED CARD OF 'emendatelaw34.PricesValid'. -/
def pricesValidCard : Claim7 := { stood := { row := pricesValidRow, standIns := [], harness := (true, "99d677a5d98a18c99b99fb3970176daf22253983a4125fd2f44c38fa02540d58"), looks := true }, kinds := [], alts := [], laidByText := true, laidKinds := [.data, .data, .data, .data, .sentinel, .sentinel, .pinned], laidTests := true, laidLooks := .later }
def PricesValidCardSaid : Prop := Claim7.holds Tryz.pinned (.plain (OpenSpec.ofChange pricesValidSpec)) pricesValidCard

/-- THE TIED CARD OF 'emendatelaw34.PricesParse'. -/
def pricesParseCard : Claim7 := { stood := { row := pricesParseRow, standIns := [], harness := (true, "99d677a5d98a18c99b99fb3970176daf22253983a4125fd2f44c38fa02540d58"), looks := true }, kinds := [], alts := [], laidByText := true, laidKinds := [.data, .data, .data, .data, .sentinel, .sentinel, .pinned], laidTests := true, laidLooks := .later }
def PricesParseCardSaid : Prop := Claim7.holds Tryz.pinned (.plain (OpenSpec.ofChange pricesParseSpec)) pricesParseCard

/-- THE TIED CARD OF 'emendatelaw34.PricesFormat'. -/
def pricesFormatCard : Claim7 := { stood := { row := pricesFormatRow, standIns := [], harness := (true, "99d677a5d98a18c99b99fb3970176daf22253983a4125fd2f44c38fa02540d58"), looks := true }, kinds := [], alts := [], laidByText := true, laidKinds := [.data, .data, .data, .data, .sentinel, .sentinel, .pinned], laidTests := true, laidLooks := .later }
def PricesFormatCardSaid : Prop := Claim7.holds Tryz.pinned (.plain (OpenSpec.ofChange pricesFormatSpec)) pricesFormatCard

/-- THE TIED CARD OF 'emendatelaw34.PricesRoundTrip'. -/
def pricesRoundTripCard : Claim7 := { stood := { row := pricesRoundTripRow, standIns := [], harness := (true, "99d677a5d98a18c99b99fb3970176daf22253983a4125fd2f44c38fa02540d58"), looks := true }, kinds := [], alts := [], laidByText := true, laidKinds := [.data, .data, .data, .data, .sentinel, .sentinel, .pinned], laidTests := true, laidLooks := .later }
def PricesRoundTripCardSaid : Prop := Claim7.holds Tryz.pinned (.plain (OpenSpec.ofChange pricesRoundTripSpec)) pricesRoundTripCard

/-- THE TIED CARD OF 'emendatelaw34.PricesOverride'. -/
def pricesOverrideCard : Claim7 := { stood := { row := pricesOverrideRow, standIns := [], harness := (true, "99d677a5d98a18c99b99fb3970176daf22253983a4125fd2f44c38fa02540d58"), looks := true }, kinds := [], alts := [], laidByText := true, laidKinds := [.data, .data, .data, .data, .sentinel, .sentinel, .pinned], laidTests := true, laidLooks := .later }
def PricesOverrideCardSaid : Prop := Claim7.holds Tryz.pinned (.plain (OpenSpec.ofChange pricesOverrideSpec)) pricesOverrideCard

/-- THE TIED CARD OF 'emendatelaw34.PricesComments'. -/
def pricesCommentsCard : Claim7 := { stood := { row := pricesCommentsRow, standIns := [], harness := (true, "99d677a5d98a18c99b99fb3970176daf22253983a4125fd2f44c38fa02540d58"), looks := true }, kinds := [], alts := [], laidByText := true, laidKinds := [.data, .data, .data, .data, .sentinel, .sentinel, .pinned], laidTests := true, laidLooks := .later }
def PricesCommentsCardSaid : Prop := Claim7.holds Tryz.pinned (.plain (OpenSpec.ofChange pricesCommentsSpec)) pricesCommentsCard

/-- THE SECOND FORM's CARD OF 'emendatelaw34.PricesValid'. -/
def pricesValidUptoCard : Claim7 := { stood := { row := pricesValidUptoRow, standIns := [], harness := (true, "99d677a5d98a18c99b99fb3970176daf22253983a4125fd2f44c38fa02540d58"), looks := true }, kinds := [], alts := [], laidByText := true, laidKinds := [.data, .data, .data, .data, .sentinel, .sentinel, .pinned], laidTests := true, laidLooks := .later }
def PricesValidUptoCardSaid : Prop := Claim7.holds Tryz.pinned (.plain (OpenSpec.upto pricesValidSpec)) pricesValidUptoCard

/-- THE SECOND FORM's CARD OF 'emendatelaw34.PricesParse'. -/
def pricesParseUptoCard : Claim7 := { stood := { row := pricesParseUptoRow, standIns := [], harness := (true, "99d677a5d98a18c99b99fb3970176daf22253983a4125fd2f44c38fa02540d58"), looks := true }, kinds := [], alts := [], laidByText := true, laidKinds := [.data, .data, .data, .data, .sentinel, .sentinel, .pinned], laidTests := true, laidLooks := .later }
def PricesParseUptoCardSaid : Prop := Claim7.holds Tryz.pinned (.plain (OpenSpec.upto pricesParseSpec)) pricesParseUptoCard

/-- THE SECOND FORM's CARD OF 'emendatelaw34.PricesFormat'. -/
def pricesFormatUptoCard : Claim7 := { stood := { row := pricesFormatUptoRow, standIns := [], harness := (true, "99d677a5d98a18c99b99fb3970176daf22253983a4125fd2f44c38fa02540d58"), looks := true }, kinds := [], alts := [], laidByText := true, laidKinds := [.data, .data, .data, .data, .sentinel, .sentinel, .pinned], laidTests := true, laidLooks := .later }
def PricesFormatUptoCardSaid : Prop := Claim7.holds Tryz.pinned (.plain (OpenSpec.upto pricesFormatSpec)) pricesFormatUptoCard

/-- THE SECOND FORM's CARD OF 'emendatelaw34.PricesRoundTrip'. -/
def pricesRoundTripUptoCard : Claim7 := { stood := { row := pricesRoundTripUptoRow, standIns := [], harness := (true, "99d677a5d98a18c99b99fb3970176daf22253983a4125fd2f44c38fa02540d58"), looks := true }, kinds := [], alts := [], laidByText := true, laidKinds := [.data, .data, .data, .data, .sentinel, .sentinel, .pinned], laidTests := true, laidLooks := .later }
def PricesRoundTripUptoCardSaid : Prop := Claim7.holds Tryz.pinned (.plain (OpenSpec.upto pricesRoundTripSpec)) pricesRoundTripUptoCard

/-- THE SECOND FORM's CARD OF 'emendatelaw34.PricesOverride'. -/
def pricesOverrideUptoCard : Claim7 := { stood := { row := pricesOverrideUptoRow, standIns := [], harness := (true, "99d677a5d98a18c99b99fb3970176daf22253983a4125fd2f44c38fa02540d58"), looks := true }, kinds := [], alts := [], laidByText := true, laidKinds := [.data, .data, .data, .data, .sentinel, .sentinel, .pinned], laidTests := true, laidLooks := .later }
def PricesOverrideUptoCardSaid : Prop := Claim7.holds Tryz.pinned (.plain (OpenSpec.upto pricesOverrideSpec)) pricesOverrideUptoCard

/-- THE SECOND FORM's CARD OF 'emendatelaw34.PricesComments'. -/
def pricesCommentsUptoCard : Claim7 := { stood := { row := pricesCommentsUptoRow, standIns := [], harness := (true, "99d677a5d98a18c99b99fb3970176daf22253983a4125fd2f44c38fa02540d58"), looks := true }, kinds := [], alts := [], laidByText := true, laidKinds := [.data, .data, .data, .data, .sentinel, .sentinel, .pinned], laidTests := true, laidLooks := .later }
def PricesCommentsUptoCardSaid : Prop := Claim7.holds Tryz.pinned (.plain (OpenSpec.upto pricesCommentsSpec)) pricesCommentsUptoCard
end Rows
end Go.Proofs.YtbfmbiapjgpfhaaGreatDoor
