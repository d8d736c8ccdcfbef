/-
  DERIVED. GIVEN WITH THE SEED: THE CARDS: each row of YtamkgmbalokjoaaGreatDoorRows.lean that lists a variable, with what it lists TIED to the program's text (the seventh form; the later family's looks); each row that meets fmt, with fmt's text TOLD by the authors' own Lean function (tested against real Go, not proved from fmt's source: count such statements apart). THE CARD IS WHAT COUNTS. Prove the row's statement (the work); the ties are given (YtamkgmbalokjoaaGreatDoorTie.lean); close each card by the builder's one call (the guide's Derived/Test/ToyasCard.lean, 'card_holds'). Laid BY PROGRAM, IN A SANDBOX (cutbox-door.mjs). By AI agents, Wed Nov 11 2026. No macro, syntax, notation, axiom, sorry.
-/
import Derived.Test.YtamkgmbalokjoaaGreatDoorRows
import GoSem.ClaimSeven
namespace Go.Proofs.YtamkgmbalokjoaaGreatDoor
namespace Rows

/-- THE TIED CARD OF 'wicketlaw16.EndpointNil'. -/
def endpointNilCard : Claim7 := { stood := { row := endpointNilRow, standIns := [], harness := (true, "fa9ff6d7667d70e5eb605b307d8475c4e96bcf97f9c1eed83a60875f72f0b1ae"), looks := true }, kinds := [], alts := [], laidByText := true, laidKinds := [.pinned, .data, .data, .data, .sentinel, .sentinel, .data, .data, .data, .data, .data, .data, .data, .data, .pinned, .data], laidTests := true, laidLooks := .later }
def EndpointNilCardSaid : Prop := Claim7.holds Tryz.pinned (.plain (OpenSpec.ofChange endpointNilSpec)) endpointNilCard

/-- THE SECOND FORM's CARD OF 'wicketlaw16.EndpointNil'. -/
def endpointNilUptoCard : Claim7 := { stood := { row := endpointNilUptoRow, standIns := [], harness := (true, "fa9ff6d7667d70e5eb605b307d8475c4e96bcf97f9c1eed83a60875f72f0b1ae"), looks := true }, kinds := [], alts := [], laidByText := true, laidKinds := [.pinned, .data, .data, .data, .sentinel, .sentinel, .data, .data, .data, .data, .data, .data, .data, .data, .pinned, .data], laidTests := true, laidLooks := .later }
def EndpointNilUptoCardSaid : Prop := Claim7.holds Tryz.pinned (.plain (OpenSpec.upto endpointNilSpec)) endpointNilUptoCard
end Rows
end Go.Proofs.YtamkgmbalokjoaaGreatDoor
