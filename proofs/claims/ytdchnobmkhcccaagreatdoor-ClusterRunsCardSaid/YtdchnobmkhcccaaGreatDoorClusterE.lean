/- Functions of the program, told as plain functions of what they are called with, each with the proof that it is what the code does (printed by a program of the prover). -/
import Derived.Test.YtdchnobmkhcccaaGreatDoorCnRow
import Derived.Test.YtdchnobmkhcccaaGreatDoorG3
namespace Go.Proofs.YtdchnobmkhcccaaGreatDoor
theorem clusterRuns_says : Cn.saysTrue (Cn.f4 [] Cn.h00) = true := by kernel_rfl
end Go.Proofs.YtdchnobmkhcccaaGreatDoor
