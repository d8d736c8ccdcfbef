/-
  DERIVED. GIVEN WITH THE SEED: THE CARDS: each row of YtjhaaapgkaknoaaGreatDoorRows.lean that lists a variable, with what it lists TIED to the program's text (the seventh form; the later family's looks); each row that meets fmt, with fmt's text TOLD by the authors' own Lean function (tested against real Go, not proved from fmt's source: count such statements apart). THE CARD IS WHAT COUNTS. Prove the row's statement (the work); the ties are given (YtjhaaapgkaknoaaGreatDoorTie.lean); close each card by the builder's one call (the guide's Derived/Test/ToyasCard.lean, 'card_holds'). Laid BY PROGRAM, IN A SANDBOX (cutbox-door.mjs). By AI agents, Wed Nov 11 2026. No macro, syntax, notation, axiom, sorry.
-/
import Derived.Test.YtjhaaapgkaknoaaGreatDoorRows
import GoSem.ClaimSeven
namespace Go.Proofs.YtjhaaapgkaknoaaGreatDoor
namespace Rows

/-- THE TIED CARD OF 'wicketlaw21.RegisterNames'. -/
def registerNamesCard : Claim7 := { stood := { row := registerNamesRow, standIns := [], harness := (true, "3b6893816a86b44cc55026d597b635f1c4217c6b0890045224c7b7ec4778d4dc"), looks := true }, kinds := [], alts := [], laidByText := true, laidKinds := [.data, .data, .data, .data, .data, .data, .sentinel, .sentinel, .data, .data, .sentinel, .pinned], laidTests := true, laidLooks := .later }
def RegisterNamesCardSaid : Prop := Claim7.holds Tryz.pinned (.plain (OpenSpec.ofChange registerNamesSpec)) registerNamesCard

/-- THE TIED CARD OF 'wicketlaw21.RegisterNil'. -/
def registerNilCard : Claim7 := { stood := { row := registerNilRow, standIns := [], harness := (true, "3b6893816a86b44cc55026d597b635f1c4217c6b0890045224c7b7ec4778d4dc"), looks := true }, kinds := [], alts := [], laidByText := true, laidKinds := [.data, .data, .data, .data, .data, .data, .sentinel, .sentinel, .data, .data, .sentinel, .pinned], laidTests := true, laidLooks := .later }
def RegisterNilCardSaid : Prop := Claim7.holds Tryz.pinned (.plain (OpenSpec.ofChange registerNilSpec)) registerNilCard

/-- THE SECOND FORM's CARD OF 'wicketlaw21.RegisterNames'. -/
def registerNamesUptoCard : Claim7 := { stood := { row := registerNamesUptoRow, standIns := [], harness := (true, "3b6893816a86b44cc55026d597b635f1c4217c6b0890045224c7b7ec4778d4dc"), looks := true }, kinds := [], alts := [], laidByText := true, laidKinds := [.data, .data, .data, .data, .data, .data, .sentinel, .sentinel, .data, .data, .sentinel, .pinned], laidTests := true, laidLooks := .later }
def RegisterNamesUptoCardSaid : Prop := Claim7.holds Tryz.pinned (.plain (OpenSpec.upto registerNamesSpec)) registerNamesUptoCard

/-- THE SECOND FORM's CARD OF 'wicketlaw21.RegisterNil'. -/
def registerNilUptoCard : Claim7 := { stood := { row := registerNilUptoRow, standIns := [], harness := (true, "3b6893816a86b44cc55026d597b635f1c4217c6b0890045224c7b7ec4778d4dc"), looks := true }, kinds := [], alts := [], laidByText := true, laidKinds := [.data, .data, .data, .data, .data, .data, .sentinel, .sentinel, .data, .data, .sentinel, .pinned], laidTests := true, laidLooks := .later }
def RegisterNilUptoCardSaid : Prop := Claim7.holds Tryz.pinned (.plain (OpenSpec.upto registerNilSpec)) registerNilUptoCard
end Rows
end Go.Proofs.YtjhaaapgkaknoaaGreatDoor
