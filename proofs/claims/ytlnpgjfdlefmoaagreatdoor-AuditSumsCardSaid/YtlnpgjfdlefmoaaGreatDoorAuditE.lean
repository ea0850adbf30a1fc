/- What a closed law comes to. -/
import Derived.Test.YtlnpgjfdlefmoaaGreatDoorPR2
import Derived.KernelRfl
namespace Go.Cn
theorem says31 : saysTrue (f31 [] h00) = true := by kernel_rfl
end Go.Cn
