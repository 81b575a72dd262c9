/-
  DERIVED. GIVEN WITH THE SEED: THE CARDS: each row of YtbkjljkjhlcmoaaGreatDoorRows.lean that lists a variable, with what it lists TIED to the program's text (the seventh form; the later family's looks); each row that meets fmt, with fmt's text TOLD by the authors' own Lean function (tested against real Go, not proved from fmt's source: count such statements apart). THE CARD IS WHAT COUNTS. Prove the row's statement (the work); the ties are given (YtbkjljkjhlcmoaaGreatDoorTie.lean); close each card by the builder's one call (the guide's Derived/Test/ToyasCard.lean, 'card_holds'). Laid BY PROGRAM, IN A SANDBOX (cutbox-door.mjs). By AI agents, Wed Nov 11 2026. No macro, syntax, notation, axiom, sorry.
-/
import Derived.Test.YtbkjljkjhlcmoaaGreatDoorRows
import GoSem.ClaimSeven
namespace Go.Proofs.YtbkjljkjhlcmoaaGreatDoor
namespace Rows

/-- THE TIED CARD OF 'emendatelaw46.LanguageSamples'. -/
def languageSamplesCard : Claim7 := { stood := { row := languageSamplesRow, standIns := [], harness := (true, "3262bf1a2f869913a2cb1c5e5c6ad8fbd277c5a3f57e92c281e3c760dd48e41c"), looks := true }, kinds := [], alts := [], laidByText := true, laidKinds := [.data, .data, .data, .data, .sentinel, .sentinel, .widerDeep, .pinned], laidTests := true, laidLooks := .later }
def LanguageSamplesCardSaid : Prop := Claim7.holds Tryz.pinned (.plain (OpenSpec.ofChange languageSamplesSpec)) languageSamplesCard

/-- THE TIED CARD OF 'emendatelaw46.LanguageNil'. -/
def languageNilCard : Claim7 := { stood := { row := languageNilRow, standIns := [], harness := (true, "3262bf1a2f869913a2cb1c5e5c6ad8fbd277c5a3f57e92c281e3c760dd48e41c"), looks := true }, kinds := [], alts := [], laidByText := true, laidKinds := [.data, .data, .data, .data, .sentinel, .sentinel, .widerDeep, .pinned], laidTests := true, laidLooks := .later }
def LanguageNilCardSaid : Prop := Claim7.holds Tryz.pinned (.plain (OpenSpec.ofChange languageNilSpec)) languageNilCard

/-- THE SECOND FORM's CARD OF 'emendatelaw46.LanguageSamples'. -/
def languageSamplesUptoCard : Claim7 := { stood := { row := languageSamplesUptoRow, standIns := [], harness := (true, "3262bf1a2f869913a2cb1c5e5c6ad8fbd277c5a3f57e92c281e3c760dd48e41c"), looks := true }, kinds := [], alts := [], laidByText := true, laidKinds := [.data, .data, .data, .data, .sentinel, .sentinel, .widerDeep, .pinned], laidTests := true, laidLooks := .later }
def LanguageSamplesUptoCardSaid : Prop := Claim7.holds Tryz.pinned (.plain (OpenSpec.upto languageSamplesSpec)) languageSamplesUptoCard

/-- THE SECOND FORM's CARD OF 'emendatelaw46.LanguageNil'. -/
def languageNilUptoCard : Claim7 := { stood := { row := languageNilUptoRow, standIns := [], harness := (true, "3262bf1a2f869913a2cb1c5e5c6ad8fbd277c5a3f57e92c281e3c760dd48e41c"), looks := true }, kinds := [], alts := [], laidByText := true, laidKinds := [.data, .data, .data, .data, .sentinel, .sentinel, .widerDeep, .pinned], laidTests := true, laidLooks := .later }
def LanguageNilUptoCardSaid : Prop := Claim7.holds Tryz.pinned (.plain (OpenSpec.upto languageNilSpec)) languageNilUptoCard
end Rows
end Go.Proofs.YtbkjljkjhlcmoaaGreatDoor
