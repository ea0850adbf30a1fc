/- A piece of the run of chapter 27: rounds. -/
import Derived.Test.YtlnpgjfdlefmoaaGreatDoorPR2
import Derived.Test.YtlnpgjfdlefmoaaGreatDoorCnLits
import Derived.KernelRfl
namespace Go.Cn
theorem ck2 : (fun g => ends n46 h46 (goesN f73 [.ptr (some (0, 0))] (.tuple []) 16 (layH n30 h30 g))) = fun _ => true := by kernel_rfl
end Go.Cn

/- A piece of the run of chapter 27: rounds. -/
namespace Go.Cn
theorem ck3 : (fun g => ends nE hE (goesN f73 [.ptr (some (0, 0))] (.tuple []) 14 (layH n46 h46 g))) = fun _ => true := by kernel_rfl
end Go.Cn
