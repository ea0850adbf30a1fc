/- Functions of the program, told as plain functions of what they are called with, each with the proof that it is what the code does (printed by a program of the prover). -/
import Derived.Test.YtdchnobmkhcccaaGreatDoorLib
import Derived.KernelRfl
namespace Go.Cn
open Go.Proofs
theorem hmO : Tryz.prog.follows .mixedOrders = true := by kernel_rfl
end Go.Cn
