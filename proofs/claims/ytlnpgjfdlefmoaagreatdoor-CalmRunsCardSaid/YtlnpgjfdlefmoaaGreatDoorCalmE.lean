/- What the run of chapter 27 comes to. -/
import Derived.Test.YtlnpgjfdlefmoaaGreatDoorPC0
import Derived.KernelRfl
namespace Go.Cn
theorem calmRuns_says : saysTrue (f5 [] h00) = true := by kernel_rfl
end Go.Cn
