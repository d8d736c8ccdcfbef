/-
  Closed facts of the row ServerBackUpto, joined.
-/
import Derived.Test.YtbfoocginkdmcaaGreatDoorKYa
import Derived.Test.YtbfoocginkdmcaaGreatDoorKYc
import Derived.Test.YtbfoocginkdmcaaGreatDoorKYd
import Derived.Test.YtbfoocginkdmcaaGreatDoorKYe
import Derived.Test.YtbfoocginkdmcaaGreatDoorKYf
import Derived.Test.YtbfoocginkdmcaaGreatDoorKYh

set_option maxRecDepth 100000
set_option linter.unusedVariables false
namespace Go.Proofs.YtbfoocginkdmcaaGreatDoor
open Go
theorem and2 {a b : Bool} (h1 : a = true) (h2 : b = true) : (a && b) = true := by rw [h1, h2]; rfl
theorem n_facts : joinedFacts Tryz.prog 6 Tryz.f6 (Rows.OpenSpec.upto Rows.serverBackSpec).bare Rows.serverBackUptoRow = true :=
  and2 (and2 (and2 (and2 (and2 (and2 (and2 (and2 (and2 (and2 (and2 (and2 (and2 (and2 (and2 (and2 (and2 (and2 (and2 (and2 (and2 (and2 (and2 (and2 (and2 (and2 (and2 (and2 (and2 (and2 (and2 j_0 n_three.1) n_three.2.1) j_3) j_4) j_5) j_6) j_7) j_8) n_ip) n_uf) n_rc) n_nm) j_13) j_14) j_15) j_16) j_17) j_18) j_19) j_20) j_21) n_pk) j_23) j_24) j_25) j_26) j_27) j_28) j_29) j_30) j_31
end Go.Proofs.YtbfoocginkdmcaaGreatDoor
