/- cluster.New of three, five and seven: what it leaves. -/
import Derived.Test.YtlnpgjfdlefmoaaGreatDoorPI1
import Derived.Test.YtlnpgjfdlefmoaaGreatDoorCnLitsN
import Derived.Test.YtlnpgjfdlefmoaaGreatDoorCold
import Derived.KernelRfl
namespace Go.Cn
theorem new3 : newB 3 nN3 hN3 (f18 [ni (3 : Nat)] h00) = true := by kernel_rfl
theorem new5 : newB 5 nN5 hN5 (f18 [ni (5 : Nat)] h00) = true := by kernel_rfl
theorem new7 : newB 7 nN7 hN7 (f18 [ni (7 : Nat)] h00) = true := by kernel_rfl
end Go.Cn
