/- The program draws its orders. -/
import Derived.Test.YtlnpgjfdlefmoaaGreatDoorDel
import Derived.Test.YtlnpgjfdlefmoaaGreatDoorPI1
import Derived.KernelRfl
namespace Go.Cn
open Go.Proofs
theorem hmO : Tryz.prog.follows .mixedOrders = true := by kernel_rfl
end Go.Cn
