/- What a closed law comes to. -/
import Derived.Test.YtlnpgjfdlefmoaaGreatDoorPI1
import Derived.KernelRfl
namespace Go.Cn
theorem says26 : saysTrue (f26 [] h00) = true := by kernel_rfl
end Go.Cn
