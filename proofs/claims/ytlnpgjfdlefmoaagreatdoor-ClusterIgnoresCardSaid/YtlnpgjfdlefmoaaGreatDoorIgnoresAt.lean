/- ClusterIgnores, of the given program. -/
import Derived.Test.YtlnpgjfdlefmoaaGreatDoorIgnores
import Derived.Test.YtlnpgjfdlefmoaaGreatDoorNewRuns
import Derived.Test.YtlnpgjfdlefmoaaGreatDoorPIe1
import Derived.Test.YtlnpgjfdlefmoaaGreatDoorClusterE
namespace Go.Cn
open Go.Proofs
theorem cip : CIP Tryz.prog := { hm := hmO, m4 := by kernel_rfl, m11 := by kernel_rfl, m14 := by kernel_rfl, m19 := by kernel_rfl, m20 := by kernel_rfl, m21 := by kernel_rfl, m22 := by kernel_rfl, m23 := by kernel_rfl, m24 := by kernel_rfl, m25 := by kernel_rfl, m52 := by kernel_rfl, m61 := by kernel_rfl, m62 := by kernel_rfl, m63 := by kernel_rfl, m64 := by kernel_rfl, m68 := by kernel_rfl, m69 := by kernel_rfl, m125 := by kernel_rfl, m144 := by kernel_rfl }

theorem ci18 (k : Nat) (hk : k = 3 ∨ k = 5 ∨ k = 7) (H : Heap) : CallT Tryz.prog 18 [ni k] H fun v H' => ∃ c nb, v = .tuple [.ptr (some (c, 0)), ni 0] ∧ Cold k c nb H' ∧ Grow H H' := by
  rcases hk with rfl | rfl | rfl
  · exact new_of o18 (by decide) new3 H
  · exact new_of o18 (by decide) new5 H
  · exact new_of o18 (by decide) new7 H

theorem ci26 (H : Heap) : CallT Tryz.prog 26 [] H fun v H' => v = .bool true ∧ H' = H := callT_says o26 says26 H

theorem ci4 (n : Int) (p : Option (Nat × Nat)) (rows : List (List V)) (hp : p = none ∧ rows = [] ∨ p = some (0, 0)) (hrow : ∀ r ∈ rows, FitsA shStep r) (hlen : rows.length ≤ maxLen) :
    CallT Tryz.prog 4 [.int .i64 n, .slice p rows.length false shStep.length] (argH shStep.length rows.flatten) fun v _ => v = .bool true := c4 cip ci18 ci26 n p rows hp hrow hlen
end Go.Cn
