/- A piece of the run of chapter 27: its beginning. -/
import Derived.Test.YtlnpgjfdlefmoaaGreatDoorPR2
import Derived.Test.YtlnpgjfdlefmoaaGreatDoorCnLits
import Derived.KernelRfl
namespace Go.Cn
noncomputable def startGo (h : HT) : Option HT :=
  match stepF f72 [.ptr (some (0, 0))] (.tuple []) h with
  | some h => goesN f73 [.ptr (some (0, 0))] (.tuple []) 12 h
  | none => none
theorem ck0 : (fun g => ends n12 h12 (startGo (layH nS hS g))) = fun _ => true := by kernel_rfl
end Go.Cn

/- A piece of the run of chapter 27: rounds. -/
namespace Go.Cn
theorem ck1 : (fun g => ends n30 h30 (goesN f73 [.ptr (some (0, 0))] (.tuple []) 18 (layH n12 h12 g))) = fun _ => true := by kernel_rfl
end Go.Cn
