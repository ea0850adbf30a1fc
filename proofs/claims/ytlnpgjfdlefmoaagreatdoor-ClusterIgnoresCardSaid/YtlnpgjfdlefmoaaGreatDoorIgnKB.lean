/- Functions of the program, told as plain functions of what they are called with (printed by a program of the prover). -/
import Derived.Test.YtlnpgjfdlefmoaaGreatDoorIgnK
import Derived.Test.YtlnpgjfdlefmoaaGreatDoorTie
import Derived.SevenTiedAt
import Derived.JoinedOf
import Derived.KernelRfl
namespace Go.Proofs.YtlnpgjfdlefmoaaGreatDoor
open Go
set_option maxRecDepth 100000
theorem and_t {a b : Bool} (h : a = true) (h' : b = true) : (a && b) = true := by rw [h, h']; rfl
theorem clusterIgnores_closed : joinedFacts Tryz.prog 4 Tryz.f4 Rows.clusterIgnoresSpec Rows.clusterIgnoresRow = true := by
  unfold joinedFacts
  exact (and_t (and_t (and_t (and_t (and_t (and_t (and_t (and_t (and_t (and_t (and_t (and_t (and_t (and_t (and_t (and_t (and_t (and_t (and_t (and_t (and_t (and_t (and_t (and_t (and_t (and_t (and_t (and_t (and_t (and_t (and_t clusterIgnores_k0 clusterIgnores_k1) clusterIgnores_k2) clusterIgnores_k3) clusterIgnores_k4) clusterIgnores_k5) clusterIgnores_k6) clusterIgnores_k7) clusterIgnores_k8) clusterIgnores_k9) clusterIgnores_k10) clusterIgnores_k11) clusterIgnores_k12) clusterIgnores_k13) clusterIgnores_k14) clusterIgnores_k15) clusterIgnores_k16) clusterIgnores_k17) clusterIgnores_k18) clusterIgnores_k19) clusterIgnores_k20) clusterIgnores_k21) clusterIgnores_k22) clusterIgnores_k23) clusterIgnores_k24) clusterIgnores_k25) clusterIgnores_k26) clusterIgnores_k27) clusterIgnores_k28) clusterIgnores_k29) clusterIgnores_k30) clusterIgnores_k31)
theorem clusterIgnores_n1 : Tryz.prog.funcNamed "concord/concordlaw25.ClusterIgnores" = some 4 := by kernel_rfl
theorem clusterIgnores_n2 : Tryz.f4.isInstance Tryz.prog Rows.clusterIgnoresRow.origin Rows.clusterIgnoresRow.targs := of_decide_eq_true (by kernel_rfl)
theorem clusterIgnores_n3 : Tryz.f4.isWrapper Tryz.prog Rows.clusterIgnoresRow.wrapper Rows.clusterIgnoresRow.mainSum := by
  unfold Func.isWrapper; first | (rw [if_pos (by decide +kernel)]; kernel_rfl) | (rw [if_neg (by decide +kernel)]; exact ⟨rfl, rfl⟩)
theorem clusterIgnores_n4 : Rows.clusterIgnoresRow.wfByText (OpenSpec.ofChange Rows.clusterIgnoresSpec) = true := by kernel_rfl
theorem clusterIgnores_n5 : Tryz.pinned.checked.prog.mainIs = some (true, "a84d35926c420a074d1b9d2e3bb20aef74468b7265517d324e2d4ad1c1125ef9".toList) := by kernel_rfl
theorem clusterIgnores_n6 : true = Tryz.prog.looks [] := by kernel_rfl
theorem clusterIgnores_n7 : false = Rows.clusterIgnoresRow.goesBy Tryz.pinned.checked.prog := by kernel_rfl
end Go.Proofs.YtlnpgjfdlefmoaaGreatDoor
