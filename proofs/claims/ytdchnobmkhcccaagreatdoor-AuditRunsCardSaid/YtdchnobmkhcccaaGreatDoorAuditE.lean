/- concordlaw28.AuditRuns: closed facts on its row and its run. -/
import Derived.Test.YtdchnobmkhcccaaGreatDoorCnRow
import Derived.Test.YtdchnobmkhcccaaGreatDoorG3
namespace Go.Proofs.YtdchnobmkhcccaaGreatDoor
theorem auditRuns_says : Cn.saysTrue (Cn.f6 [] Cn.h00) = true := by kernel_rfl
end Go.Proofs.YtdchnobmkhcccaaGreatDoor
