/- Functions of the program, told as plain functions of what they are called with, each with the proof that it is what the code does (printed by a program of the prover). -/
import Derived.Test.YtdchnobmkhcccaaGreatDoorNodeK
import Derived.Test.YtdchnobmkhcccaaGreatDoorTie
import Derived.SevenTiedAt
import Derived.JoinedOf
import Derived.KernelRfl
namespace Go.Proofs.YtdchnobmkhcccaaGreatDoor
open Go
set_option maxRecDepth 100000
theorem and_t {a b : Bool} (h : a = true) (h' : b = true) : (a && b) = true := by rw [h, h']; rfl
theorem nodeRuns_closed : joinedFacts Tryz.prog 3 Tryz.f3 Rows.nodeRunsSpec Rows.nodeRunsRow = true := by
  unfold joinedFacts
  exact (and_t (and_t (and_t (and_t (and_t (and_t (and_t (and_t (and_t (and_t (and_t (and_t (and_t (and_t (and_t (and_t (and_t (and_t (and_t (and_t (and_t (and_t (and_t (and_t (and_t (and_t (and_t (and_t (and_t (and_t (and_t nodeRuns_k0 nodeRuns_k1) nodeRuns_k2) nodeRuns_k3) nodeRuns_k4) nodeRuns_k5) nodeRuns_k6) nodeRuns_k7) nodeRuns_k8) nodeRuns_k9) nodeRuns_k10) nodeRuns_k11) nodeRuns_k12) nodeRuns_k13) nodeRuns_k14) nodeRuns_k15) nodeRuns_k16) nodeRuns_k17) nodeRuns_k18) nodeRuns_k19) nodeRuns_k20) nodeRuns_k21) nodeRuns_k22) nodeRuns_k23) nodeRuns_k24) nodeRuns_k25) nodeRuns_k26) nodeRuns_k27) nodeRuns_k28) nodeRuns_k29) nodeRuns_k30) nodeRuns_k31)
theorem nodeRuns_n1 : Tryz.prog.funcNamed "concord/concordlaw23.NodeRuns" = some 3 := by kernel_rfl
theorem nodeRuns_n2 : Tryz.f3.isInstance Tryz.prog Rows.nodeRunsRow.origin Rows.nodeRunsRow.targs := of_decide_eq_true (by kernel_rfl)
theorem nodeRuns_n3 : Tryz.f3.isWrapper Tryz.prog Rows.nodeRunsRow.wrapper Rows.nodeRunsRow.mainSum := by
  unfold Func.isWrapper; first | (rw [if_pos (by decide +kernel)]; kernel_rfl) | (rw [if_neg (by decide +kernel)]; exact ⟨rfl, rfl⟩)
theorem nodeRuns_n4 : Rows.nodeRunsRow.wfByText (OpenSpec.ofChange Rows.nodeRunsSpec) = true := by kernel_rfl
theorem nodeRuns_n5 : Tryz.pinned.checked.prog.mainIs = some (true, "16f5b703a8d8a111cae254fe40cb4a5cb067b46be2bbd48222f0094d979ea1e3".toList) := by kernel_rfl
theorem nodeRuns_n6 : true = Tryz.prog.looks [] := by kernel_rfl
theorem nodeRuns_n7 : false = Rows.nodeRunsRow.goesBy Tryz.pinned.checked.prog := by kernel_rfl
end Go.Proofs.YtdchnobmkhcccaaGreatDoor
