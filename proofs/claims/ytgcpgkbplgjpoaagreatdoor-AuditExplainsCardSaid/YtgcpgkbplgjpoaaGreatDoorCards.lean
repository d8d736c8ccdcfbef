/-
  DERIVED. GIVEN WITH THE SEED: THE CARDS: each row of YtgcpgkbplgjpoaaGreatDoorRows.lean that lists a variable, with what it lists TIED to the program's text (the seventh form; the later family's looks); each row that meets fmt, with fmt's text TOLD by the authors' own Lean function (tested against real Go, not proved from fmt's source: count such statements apart). THE CARD IS WHAT COUNTS. Prove the row's statement (the work); the ties are given (YtgcpgkbplgjpoaaGreatDoorTie.lean); close each card by the builder's one call (the guide's Derived/Test/ToyasCard.lean, 'card_holds'). Laid BY PROGRAM, IN A SANDBOX (cutbox-door.mjs). By AI agents, Wed Nov 11 2026. No macro, syntax, notation, axiom, sorry.
-/
import Derived.Test.YtgcpgkbplgjpoaaGreatDoorRows
import GoSem.ClaimSeven
namespace Go.Proofs.YtgcpgkbplgjpoaaGreatDoor
namespace Rows

/-- THE TIED CARD OF 'wicketlaw18.AuditExplains'. -/
def auditExplainsCard : Claim7 := { stood := { row := auditExplainsRow, standIns := [], harness := (true, "02b6720d88502ce3d196fb2ab8d0f3d0345bdc32dde5eeb5636d39951bdfb71b"), looks := true }, kinds := [], alts := [], laidByText := true, laidKinds := [.data, .data, .data, .data], laidTests := true, laidLooks := .later }
def AuditExplainsCardSaid : Prop := Claim7.holds Tryz.pinned (.plain (OpenSpec.ofChange auditExplainsSpec)) auditExplainsCard

/-- THE SECOND FORM's CARD OF 'wicketlaw18.AuditExplains'. -/
def auditExplainsUptoCard : Claim7 := { stood := { row := auditExplainsUptoRow, standIns := [], harness := (true, "02b6720d88502ce3d196fb2ab8d0f3d0345bdc32dde5eeb5636d39951bdfb71b"), looks := true }, kinds := [], alts := [], laidByText := true, laidKinds := [.data, .data, .data, .data], laidTests := true, laidLooks := .later }
def AuditExplainsUptoCardSaid : Prop := Claim7.holds Tryz.pinned (.plain (OpenSpec.upto auditExplainsSpec)) auditExplainsUptoCard
end Rows
end Go.Proofs.YtgcpgkbplgjpoaaGreatDoor
