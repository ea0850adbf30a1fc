/- .. and that it is what the code does (printed by a program of the prover). -/
import Derived.Test.YtlnpgjfdlefmoaaGreatDoorPC0
import Derived.Test.YtlnpgjfdlefmoaaGreatDoorSettleOk
namespace Go.Cn
open Go.Proofs
/- concord/concordlaw27.CalmRuns -/
def a5 : List Ann := [.no]
theorem e5 : f5 = evFun Tryz.prog 5 0 a5 t5 := by kernel_rfl
theorem o5 : FnOk Tryz.prog 5 f5 := .of hmO (show enters Tryz.prog 5 = true by kernel_rfl) e5 (.cons o18 (.cons o25 (.cons o27 (.cons o28 (.cons o29 (.nil))))))
end Go.Cn
