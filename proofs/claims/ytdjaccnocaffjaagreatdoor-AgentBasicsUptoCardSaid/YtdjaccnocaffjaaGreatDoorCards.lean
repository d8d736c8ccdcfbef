/-
  DERIVED. GIVEN WITH THE SEED: THE CARDS: each row of YtdjaccnocaffjaaGreatDoorRows.lean that lists a variable, with what it lists TIED to the program's text (the seventh form; the later family's looks); each row that meets fmt, with fmt's text TOLD by the authors' own Lean function (tested against real Go, not proved from fmt's source: count such statements apart). THE CARD IS WHAT COUNTS. Prove the row's statement (the work); the ties are given (YtdjaccnocaffjaaGreatDoorTie.lean); close each card by the builder's one call (the guide's Derived/Test/ToyasCard.lean, 'card_holds'). Laid BY PROGRAM, IN A SANDBOX (cutbox-door.mjs). By AI agents, Wed Nov 11 2026. No macro, syntax, notation, axiom, sorry.
-/
import Derived.Test.YtdjaccnocaffjaaGreatDoorRows
import GoSem.ClaimSeven
namespace Go.Proofs.YtdjaccnocaffjaaGreatDoor
namespace Rows

/-- THE TIED CARD OF 'wicketlaw24.AgentBasics'. -/
def agentBasicsCard : Claim7 := { stood := { row := agentBasicsRow, standIns := [], harness := (true, "475d105e88f2088f266ab75e675fd6b74d129714c559f928fadf0bbe3f49f52b"), looks := true }, kinds := [], alts := [], laidByText := true, laidKinds := [.pinned, .data, .data, .data, .sentinel, .sentinel, .data, .data, .data, .data, .data, .data, .data, .data, .pinned, .data], laidTests := true, laidLooks := .later }
def AgentBasicsCardSaid : Prop := Claim7.holds Tryz.pinned (.plain (OpenSpec.ofChange agentBasicsSpec)) agentBasicsCard

/-- THE TIED CARD OF 'wicketlaw24.AgentNil'. -/
def agentNilCard : Claim7 := { stood := { row := agentNilRow, standIns := [], harness := (true, "475d105e88f2088f266ab75e675fd6b74d129714c559f928fadf0bbe3f49f52b"), looks := true }, kinds := [], alts := [], laidByText := true, laidKinds := [.sentinel, .sentinel, .data, .data, .data, .pinned, .data, .data, .data, .data, .data, .data, .data, .data, .pinned, .data], laidTests := true, laidLooks := .later }
def AgentNilCardSaid : Prop := Claim7.holds Tryz.pinned (.plain (OpenSpec.ofChange agentNilSpec)) agentNilCard

/-- THE SECOND FORM's CARD OF 'wicketlaw24.AgentBasics'. -/
def agentBasicsUptoCard : Claim7 := { stood := { row := agentBasicsUptoRow, standIns := [], harness := (true, "475d105e88f2088f266ab75e675fd6b74d129714c559f928fadf0bbe3f49f52b"), looks := true }, kinds := [], alts := [], laidByText := true, laidKinds := [.pinned, .data, .data, .data, .sentinel, .sentinel, .data, .data, .data, .data, .data, .data, .data, .data, .pinned, .data], laidTests := true, laidLooks := .later }
def AgentBasicsUptoCardSaid : Prop := Claim7.holds Tryz.pinned (.plain (OpenSpec.upto agentBasicsSpec)) agentBasicsUptoCard

/-- THE SECOND FORM's CARD OF 'wicketlaw24.AgentNil'. -/
def agentNilUptoCard : Claim7 := { stood := { row := agentNilUptoRow, standIns := [], harness := (true, "475d105e88f2088f266ab75e675fd6b74d129714c559f928fadf0bbe3f49f52b"), looks := true }, kinds := [], alts := [], laidByText := true, laidKinds := [.sentinel, .sentinel, .data, .data, .data, .pinned, .data, .data, .data, .data, .data, .data, .data, .data, .pinned, .data], laidTests := true, laidLooks := .later }
def AgentNilUptoCardSaid : Prop := Claim7.holds Tryz.pinned (.plain (OpenSpec.upto agentNilSpec)) agentNilUptoCard
end Rows
end Go.Proofs.YtdjaccnocaffjaaGreatDoor
