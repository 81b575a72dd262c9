/-
  DERIVED. GIVEN WITH THE SEED: THE CARDS: each row of YtjjinpgjfabemaaDoorRows.lean that lists a variable, with what it lists TIED to the program's text (the seventh form; the later family's looks); each row that meets fmt, with fmt's text TOLD by the authors' own Lean function (tested against real Go, not proved from fmt's source: count such statements apart). THE CARD IS WHAT COUNTS. Prove the row's statement (the work); the ties are given (YtjjinpgjfabemaaDoorTie.lean); close each card by the builder's one call (the guide's Derived/Test/ToyasCard.lean, 'card_holds'). Laid BY PROGRAM, IN A SANDBOX (cutbox-door.mjs). By AI agents, Wed Nov 11 2026. No macro, syntax, notation, axiom, sorry.
-/
import Derived.Test.YtjjinpgjfabemaaDoorRows
import GoSem.ClaimSeven
namespace Go.Proofs.YtjjinpgjfabemaaDoor
namespace Rows

/-- THE TIED CARD OF 'emendatelaw07.BytesetAll'. -/
def bytesetAllCard : Claim7 := { stood := { row := bytesetAllRow, standIns := [], harness := (true, "ee96e36dd393753a88bc655e3b90dd7d04e9f962525a81dd6e561930fd46de44"), looks := false }, kinds := [], alts := [], laidByText := true, laidKinds := [.data], laidTests := true, laidLooks := .later }
def BytesetAllCardSaid : Prop := Claim7.holds Tryd.pinned (.plain (OpenSpec.ofChange bytesetAllSpec)) bytesetAllCard

/-- THE SECOND FORM's CARD OF 'emendatelaw07.BytesetAll'. -/
def bytesetAllUptoCard : Claim7 := { stood := { row := bytesetAllUptoRow, standIns := [], harness := (true, "ee96e36dd393753a88bc655e3b90dd7d04e9f962525a81dd6e561930fd46de44"), looks := false }, kinds := [], alts := [], laidByText := true, laidKinds := [.data], laidTests := true, laidLooks := .later }
def BytesetAllUptoCardSaid : Prop := Claim7.holds Tryd.pinned (.plain (OpenSpec.upto bytesetAllSpec)) bytesetAllUptoCard
end Rows
end Go.Proofs.YtjjinpgjfabemaaDoor
