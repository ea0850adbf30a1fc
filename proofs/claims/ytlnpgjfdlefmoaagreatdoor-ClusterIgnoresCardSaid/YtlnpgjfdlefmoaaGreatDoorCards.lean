/-
  DERIVED. GIVEN WITH THE SEED: THE CARDS: each row of YtlnpgjfdlefmoaaGreatDoorRows.lean that lists a variable, with what it lists TIED to the program's text (the seventh form; the later family's looks); each row that meets fmt, with fmt's text TOLD by the authors' own Lean function (tested against real Go, not proved from fmt's source: count such statements apart). THE CARD IS WHAT COUNTS. Prove the row's statement (the work); the ties are given (YtlnpgjfdlefmoaaGreatDoorTie.lean); close each card by the builder's one call (the guide's Derived/Test/ToyasCard.lean, 'card_holds'). Laid BY PROGRAM, IN A SANDBOX (cutbox-door.mjs). By AI agents, Wed Nov 11 2026. No macro, syntax, notation, axiom, sorry.
-/
import Derived.Test.YtlnpgjfdlefmoaaGreatDoorRows
import GoSem.ClaimSeven
namespace Go.Proofs.YtlnpgjfdlefmoaaGreatDoor
namespace Rows

/-- THE TIED CARD OF 'concordlaw23.NodeAsks'. -/
def nodeAsksCard : Claim7 := { stood := { row := nodeAsksRow, standIns := [], harness := (true, "a84d35926c420a074d1b9d2e3bb20aef74468b7265517d324e2d4ad1c1125ef9"), looks := true }, kinds := [], alts := [], laidByText := true, laidKinds := [.data, .data, .data, .sentinel, .sentinel], laidTests := true, laidLooks := .later }
def NodeAsksCardSaid : Prop := Claim7.holds Tryz.pinned (.plain (OpenSpec.ofChange nodeAsksSpec)) nodeAsksCard

/-- THE TIED CARD OF 'concordlaw25.ClusterIgnores'. -/
def clusterIgnoresCard : Claim7 := { stood := { row := clusterIgnoresRow, standIns := [], harness := (true, "a84d35926c420a074d1b9d2e3bb20aef74468b7265517d324e2d4ad1c1125ef9"), looks := true }, kinds := [], alts := [], laidByText := true, laidKinds := [.data, .data, .data, .sentinel, .sentinel], laidTests := true, laidLooks := .later }
def ClusterIgnoresCardSaid : Prop := Claim7.holds Tryz.pinned (.plain (OpenSpec.ofChange clusterIgnoresSpec)) clusterIgnoresCard

/-- THE TIED CARD OF 'concordlaw27.CalmRuns'. -/
def calmRunsCard : Claim7 := { stood := { row := calmRunsRow, standIns := [], harness := (true, "a84d35926c420a074d1b9d2e3bb20aef74468b7265517d324e2d4ad1c1125ef9"), looks := true }, kinds := [], alts := [], laidByText := true, laidKinds := [.data, .data, .data, .sentinel, .sentinel], laidTests := true, laidLooks := .later }
def CalmRunsCardSaid : Prop := Claim7.holds Tryz.pinned (.plain (OpenSpec.ofChange calmRunsSpec)) calmRunsCard

/-- THE TIED CARD OF 'concordlaw28.AuditSums'. -/
def auditSumsCard : Claim7 := { stood := { row := auditSumsRow, standIns := [], harness := (true, "a84d35926c420a074d1b9d2e3bb20aef74468b7265517d324e2d4ad1c1125ef9"), looks := true }, kinds := [], alts := [], laidByText := true, laidKinds := [.data, .data, .data, .sentinel, .sentinel], laidTests := true, laidLooks := .later }
def AuditSumsCardSaid : Prop := Claim7.holds Tryz.pinned (.plain (OpenSpec.ofChange auditSumsSpec)) auditSumsCard

/-- THE TIED CARD OF 'concordlaw29.ShellRuns'. -/
def shellRunsCard : Claim7 := { stood := { row := shellRunsRow, standIns := [], harness := (true, "a84d35926c420a074d1b9d2e3bb20aef74468b7265517d324e2d4ad1c1125ef9"), looks := true }, kinds := [], alts := [], laidByText := true, laidKinds := [.data, .data, .data, .data, .sentinel, .sentinel, .pinned], laidTests := true, laidLooks := .later }
def ShellRunsCardSaid : Prop := Claim7.holds Tryz.pinned (.plain (OpenSpec.ofChange shellRunsSpec)) shellRunsCard

/-- THE SECOND FORM's CARD OF 'concordlaw23.NodeAsks'. -/
def nodeAsksUptoCard : Claim7 := { stood := { row := nodeAsksUptoRow, standIns := [], harness := (true, "a84d35926c420a074d1b9d2e3bb20aef74468b7265517d324e2d4ad1c1125ef9"), looks := true }, kinds := [], alts := [], laidByText := true, laidKinds := [.data, .data, .data, .sentinel, .sentinel], laidTests := true, laidLooks := .later }
def NodeAsksUptoCardSaid : Prop := Claim7.holds Tryz.pinned (.plain (OpenSpec.upto nodeAsksSpec)) nodeAsksUptoCard

/-- THE SECOND FORM's CARD OF 'concordlaw25.ClusterIgnores'. -/
def clusterIgnoresUptoCard : Claim7 := { stood := { row := clusterIgnoresUptoRow, standIns := [], harness := (true, "a84d35926c420a074d1b9d2e3bb20aef74468b7265517d324e2d4ad1c1125ef9"), looks := true }, kinds := [], alts := [], laidByText := true, laidKinds := [.data, .data, .data, .sentinel, .sentinel], laidTests := true, laidLooks := .later }
def ClusterIgnoresUptoCardSaid : Prop := Claim7.holds Tryz.pinned (.plain (OpenSpec.upto clusterIgnoresSpec)) clusterIgnoresUptoCard

/-- THE SECOND FORM's CARD OF 'concordlaw27.CalmRuns'. -/
def calmRunsUptoCard : Claim7 := { stood := { row := calmRunsUptoRow, standIns := [], harness := (true, "a84d35926c420a074d1b9d2e3bb20aef74468b7265517d324e2d4ad1c1125ef9"), looks := true }, kinds := [], alts := [], laidByText := true, laidKinds := [.data, .data, .data, .sentinel, .sentinel], laidTests := true, laidLooks := .later }
def CalmRunsUptoCardSaid : Prop := Claim7.holds Tryz.pinned (.plain (OpenSpec.upto calmRunsSpec)) calmRunsUptoCard

/-- THE SECOND FORM's CARD OF 'concordlaw28.AuditSums'. -/
def auditSumsUptoCard : Claim7 := { stood := { row := auditSumsUptoRow, standIns := [], harness := (true, "a84d35926c420a074d1b9d2e3bb20aef74468b7265517d324e2d4ad1c1125ef9"), looks := true }, kinds := [], alts := [], laidByText := true, laidKinds := [.data, .data, .data, .sentinel, .sentinel], laidTests := true, laidLooks := .later }
def AuditSumsUptoCardSaid : Prop := Claim7.holds Tryz.pinned (.plain (OpenSpec.upto auditSumsSpec)) auditSumsUptoCard

/-- THE SECOND FORM's CARD OF 'concordlaw29.ShellRuns'. -/
def shellRunsUptoCard : Claim7 := { stood := { row := shellRunsUptoRow, standIns := [], harness := (true, "a84d35926c420a074d1b9d2e3bb20aef74468b7265517d324e2d4ad1c1125ef9"), looks := true }, kinds := [], alts := [], laidByText := true, laidKinds := [.data, .data, .data, .data, .sentinel, .sentinel, .pinned], laidTests := true, laidLooks := .later }
def ShellRunsUptoCardSaid : Prop := Claim7.holds Tryz.pinned (.plain (OpenSpec.upto shellRunsSpec)) shellRunsUptoCard
end Rows
end Go.Proofs.YtlnpgjfdlefmoaaGreatDoor
