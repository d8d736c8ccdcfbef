/-
  DERIVED. GIVEN WITH THE SEED: THE CARDS: each row of YtbfoocginkdmcaaGreatDoorRows.lean that lists a variable, with what it lists TIED to the program's text (the seventh form; the later family's looks); each row that meets fmt, with fmt's text TOLD by the authors' own Lean function (tested against real Go, not proved from fmt's source: count such statements apart). THE CARD IS WHAT COUNTS. Prove the row's statement (the work); the ties are given (YtbfoocginkdmcaaGreatDoorTie.lean); close each card by the builder's one call (the guide's Derived/Test/ToyasCard.lean, 'card_holds'). Laid BY PROGRAM, IN A SANDBOX (cutbox-door.mjs). By AI agents, Wed Nov 11 2026. No macro, syntax, notation, axiom, sorry.
-/
import Derived.Test.YtbfoocginkdmcaaGreatDoorRows
import GoSem.ClaimSeven
namespace Go.Proofs.YtbfoocginkdmcaaGreatDoor
namespace Rows

/-- THE TIED CARD OF 'wicketlaw17.ServerParses'. -/
def serverParsesCard : Claim7 := { stood := { row := serverParsesRow, standIns := [], harness := (true, "12c71933e61d9653c31f6c148a663033bb0e8faa5ffacdf6a4097bf4071b6f2b"), looks := true }, kinds := [], alts := [], laidByText := true, laidKinds := [.pinned, .data, .sentinel, .sentinel, .data, .data, .data, .data, .data, .data, .data, .data, .data, .data, .pinned, .data], laidTests := true, laidLooks := .later }
def ServerParsesCardSaid : Prop := Claim7.holds Tryz.pinned (.plain (OpenSpec.ofChange serverParsesSpec)) serverParsesCard

/-- THE TIED CARD OF 'wicketlaw17.ServerNil'. -/
def serverNilCard : Claim7 := { stood := { row := serverNilRow, standIns := [], harness := (true, "12c71933e61d9653c31f6c148a663033bb0e8faa5ffacdf6a4097bf4071b6f2b"), looks := true }, kinds := [], alts := [], laidByText := true, laidKinds := [.data, .pinned, .data, .data, .data, .data, .sentinel, .sentinel, .data, .data, .pinned, .data, .data, .data, .data, .data], laidTests := true, laidLooks := .later }
def ServerNilCardSaid : Prop := Claim7.holds Tryz.pinned (.plain (OpenSpec.ofChange serverNilSpec)) serverNilCard

/-- THE TIED CARD OF 'wicketlaw17.ServerPrints'. -/
def serverPrintsCard : Claim7 := { stood := { row := serverPrintsRow, standIns := [], harness := (true, "12c71933e61d9653c31f6c148a663033bb0e8faa5ffacdf6a4097bf4071b6f2b"), looks := true }, kinds := [], alts := [], laidByText := true, laidKinds := [.data, .data, .data, .pinned, .data, .data, .data, .sentinel, .sentinel, .data, .data, .data, .data, .data, .pinned, .data], laidTests := true, laidLooks := .later }
def ServerPrintsCardSaid : Prop := Claim7.holds Tryz.pinned (.plain (OpenSpec.ofChange serverPrintsSpec)) serverPrintsCard

/-- THE TIED CARD OF 'wicketlaw17.ServerBack'. -/
def serverBackCard : Claim7 := { stood := { row := serverBackRow, standIns := [], harness := (true, "12c71933e61d9653c31f6c148a663033bb0e8faa5ffacdf6a4097bf4071b6f2b"), looks := true }, kinds := [], alts := [], laidByText := true, laidKinds := [.data, .data, .data, .pinned, .data, .sentinel, .sentinel, .data, .data, .data, .data, .data, .data, .data, .pinned, .data], laidTests := true, laidLooks := .later }
def ServerBackCardSaid : Prop := Claim7.holds Tryz.pinned (.plain (OpenSpec.ofChange serverBackSpec)) serverBackCard

/-- THE SECOND FORM's CARD OF 'wicketlaw17.ServerParses'. -/
def serverParsesUptoCard : Claim7 := { stood := { row := serverParsesUptoRow, standIns := [], harness := (true, "12c71933e61d9653c31f6c148a663033bb0e8faa5ffacdf6a4097bf4071b6f2b"), looks := true }, kinds := [], alts := [], laidByText := true, laidKinds := [.pinned, .data, .sentinel, .sentinel, .data, .data, .data, .data, .data, .data, .data, .data, .data, .data, .pinned, .data], laidTests := true, laidLooks := .later }
def ServerParsesUptoCardSaid : Prop := Claim7.holds Tryz.pinned (.plain (OpenSpec.upto serverParsesSpec)) serverParsesUptoCard

/-- THE SECOND FORM's CARD OF 'wicketlaw17.ServerNil'. -/
def serverNilUptoCard : Claim7 := { stood := { row := serverNilUptoRow, standIns := [], harness := (true, "12c71933e61d9653c31f6c148a663033bb0e8faa5ffacdf6a4097bf4071b6f2b"), looks := true }, kinds := [], alts := [], laidByText := true, laidKinds := [.data, .pinned, .data, .data, .data, .data, .sentinel, .sentinel, .data, .data, .pinned, .data, .data, .data, .data, .data], laidTests := true, laidLooks := .later }
def ServerNilUptoCardSaid : Prop := Claim7.holds Tryz.pinned (.plain (OpenSpec.upto serverNilSpec)) serverNilUptoCard

/-- THE SECOND FORM's CARD OF 'wicketlaw17.ServerPrints'. -/
def serverPrintsUptoCard : Claim7 := { stood := { row := serverPrintsUptoRow, standIns := [], harness := (true, "12c71933e61d9653c31f6c148a663033bb0e8faa5ffacdf6a4097bf4071b6f2b"), looks := true }, kinds := [], alts := [], laidByText := true, laidKinds := [.data, .data, .data, .pinned, .data, .data, .data, .sentinel, .sentinel, .data, .data, .data, .data, .data, .pinned, .data], laidTests := true, laidLooks := .later }
def ServerPrintsUptoCardSaid : Prop := Claim7.holds Tryz.pinned (.plain (OpenSpec.upto serverPrintsSpec)) serverPrintsUptoCard

/-- THE SECOND FORM's CARD OF 'wicketlaw17.ServerBack'. -/
def serverBackUptoCard : Claim7 := { stood := { row := serverBackUptoRow, standIns := [], harness := (true, "12c71933e61d9653c31f6c148a663033bb0e8faa5ffacdf6a4097bf4071b6f2b"), looks := true }, kinds := [], alts := [], laidByText := true, laidKinds := [.data, .data, .data, .pinned, .data, .sentinel, .sentinel, .data, .data, .data, .data, .data, .data, .data, .pinned, .data], laidTests := true, laidLooks := .later }
def ServerBackUptoCardSaid : Prop := Claim7.holds Tryz.pinned (.plain (OpenSpec.upto serverBackSpec)) serverBackUptoCard
end Rows
end Go.Proofs.YtbfoocginkdmcaaGreatDoor
