/-
  DERIVED. GIVEN WITH THE SEED: THE CARDS: each row of YtddldbdopenabaaGreatDoorRows.lean that lists a variable, with what it lists TIED to the program's text (the seventh form; the later family's looks); each row that meets fmt, with fmt's text TOLD by the authors' own Lean function (tested against real Go, not proved from fmt's source: count such statements apart). THE CARD IS WHAT COUNTS. Prove the row's statement (the work); the ties are given (YtddldbdopenabaaGreatDoorTie.lean); close each card by the builder's one call (the guide's Derived/Test/ToyasCard.lean, 'card_holds'). Laid BY PROGRAM, IN A SANDBOX (cutbox-door.mjs). By AI agents, Wed Nov 11 2026. No macro, syntax, notation, axiom, sorry.
-/
import Derived.Test.YtddldbdopenabaaGreatDoorRows
import GoSem.ClaimSeven
namespace Go.Proofs.YtddldbdopenabaaGreatDoor
namespace Rows

/-- THE TIED CARD OF 'wicketlaw17.ServerNames'. -/
def serverNamesCard : Claim7 := { stood := { row := serverNamesRow, standIns := [], harness := (true, "6f9096b8b04f7fb0c9e0f8dd685b3be36beadcf081b5b2f481ff14451c491766"), looks := true }, kinds := [], alts := [], laidByText := true, laidKinds := [.pinned, .data, .data, .data, .sentinel, .sentinel, .data, .data, .data, .data, .data, .data, .data, .data, .pinned, .data], laidTests := true, laidLooks := .later }
def ServerNamesCardSaid : Prop := Claim7.holds Tryz.pinned (.plain (OpenSpec.ofChange serverNamesSpec)) serverNamesCard

/-- THE SECOND FORM's CARD OF 'wicketlaw17.ServerNames'. -/
def serverNamesUptoCard : Claim7 := { stood := { row := serverNamesUptoRow, standIns := [], harness := (true, "6f9096b8b04f7fb0c9e0f8dd685b3be36beadcf081b5b2f481ff14451c491766"), looks := true }, kinds := [], alts := [], laidByText := true, laidKinds := [.pinned, .data, .data, .data, .sentinel, .sentinel, .data, .data, .data, .data, .data, .data, .data, .data, .pinned, .data], laidTests := true, laidLooks := .later }
def ServerNamesUptoCardSaid : Prop := Claim7.holds Tryz.pinned (.plain (OpenSpec.upto serverNamesSpec)) serverNamesUptoCard
end Rows
end Go.Proofs.YtddldbdopenabaaGreatDoor
