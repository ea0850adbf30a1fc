/- Functions of the program, told as plain functions of what they are called with, each with the proof that it is what the code does (printed by a program of the prover). -/
import Derived.Test.YtdchnobmkhcccaaGreatDoorClusterK
import Derived.Test.YtdchnobmkhcccaaGreatDoorTie
import Derived.SevenTiedAt
import Derived.JoinedOf
import Derived.KernelRfl
namespace Go.Proofs.YtdchnobmkhcccaaGreatDoor
open Go
set_option maxRecDepth 100000
theorem and_t {a b : Bool} (h : a = true) (h' : b = true) : (a && b) = true := by rw [h, h']; rfl
theorem clusterRuns_closed : joinedFacts Tryz.prog 4 Tryz.f4 Rows.clusterRunsSpec Rows.clusterRunsRow = true := by
  unfold joinedFacts
  exact (and_t (and_t (and_t (and_t (and_t (and_t (and_t (and_t (and_t (and_t (and_t (and_t (and_t (and_t (and_t (and_t (and_t (and_t (and_t (and_t (and_t (and_t (and_t (and_t (and_t (and_t (and_t (and_t (and_t (and_t (and_t clusterRuns_k0 clusterRuns_k1) clusterRuns_k2) clusterRuns_k3) clusterRuns_k4) clusterRuns_k5) clusterRuns_k6) clusterRuns_k7) clusterRuns_k8) clusterRuns_k9) clusterRuns_k10) clusterRuns_k11) clusterRuns_k12) clusterRuns_k13) clusterRuns_k14) clusterRuns_k15) clusterRuns_k16) clusterRuns_k17) clusterRuns_k18) clusterRuns_k19) clusterRuns_k20) clusterRuns_k21) clusterRuns_k22) clusterRuns_k23) clusterRuns_k24) clusterRuns_k25) clusterRuns_k26) clusterRuns_k27) clusterRuns_k28) clusterRuns_k29) clusterRuns_k30) clusterRuns_k31)
theorem clusterRuns_n1 : Tryz.prog.funcNamed "concord/concordlaw25.ClusterRuns" = some 4 := by kernel_rfl
theorem clusterRuns_n2 : Tryz.f4.isInstance Tryz.prog Rows.clusterRunsRow.origin Rows.clusterRunsRow.targs := of_decide_eq_true (by kernel_rfl)
theorem clusterRuns_n3 : Tryz.f4.isWrapper Tryz.prog Rows.clusterRunsRow.wrapper Rows.clusterRunsRow.mainSum := by
  unfold Func.isWrapper; first | (rw [if_pos (by decide +kernel)]; kernel_rfl) | (rw [if_neg (by decide +kernel)]; exact ⟨rfl, rfl⟩)
theorem clusterRuns_n4 : Rows.clusterRunsRow.wfByText (OpenSpec.ofChange Rows.clusterRunsSpec) = true := by kernel_rfl
theorem clusterRuns_n5 : Tryz.pinned.checked.prog.mainIs = some (true, "16f5b703a8d8a111cae254fe40cb4a5cb067b46be2bbd48222f0094d979ea1e3".toList) := by kernel_rfl
theorem clusterRuns_n6 : true = Tryz.prog.looks [] := by kernel_rfl
theorem clusterRuns_n7 : false = Rows.clusterRunsRow.goesBy Tryz.pinned.checked.prog := by kernel_rfl
end Go.Proofs.YtdchnobmkhcccaaGreatDoor
