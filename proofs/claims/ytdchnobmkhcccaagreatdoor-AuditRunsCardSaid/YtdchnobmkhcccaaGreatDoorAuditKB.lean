/- concordlaw28.AuditRuns: closed facts on its row and its run. -/
import Derived.Test.YtdchnobmkhcccaaGreatDoorAuditK
import Derived.Test.YtdchnobmkhcccaaGreatDoorTie
import Derived.SevenTiedAt
import Derived.JoinedOf
import Derived.KernelRfl
namespace Go.Proofs.YtdchnobmkhcccaaGreatDoor
open Go
set_option maxRecDepth 100000
theorem and_t {a b : Bool} (h : a = true) (h' : b = true) : (a && b) = true := by rw [h, h']; rfl
theorem auditRuns_closed : joinedFacts Tryz.prog 6 Tryz.f6 Rows.auditRunsSpec Rows.auditRunsRow = true := by
  unfold joinedFacts
  exact (and_t (and_t (and_t (and_t (and_t (and_t (and_t (and_t (and_t (and_t (and_t (and_t (and_t (and_t (and_t (and_t (and_t (and_t (and_t (and_t (and_t (and_t (and_t (and_t (and_t (and_t (and_t (and_t (and_t (and_t (and_t auditRuns_k0 auditRuns_k1) auditRuns_k2) auditRuns_k3) auditRuns_k4) auditRuns_k5) auditRuns_k6) auditRuns_k7) auditRuns_k8) auditRuns_k9) auditRuns_k10) auditRuns_k11) auditRuns_k12) auditRuns_k13) auditRuns_k14) auditRuns_k15) auditRuns_k16) auditRuns_k17) auditRuns_k18) auditRuns_k19) auditRuns_k20) auditRuns_k21) auditRuns_k22) auditRuns_k23) auditRuns_k24) auditRuns_k25) auditRuns_k26) auditRuns_k27) auditRuns_k28) auditRuns_k29) auditRuns_k30) auditRuns_k31)
theorem auditRuns_n1 : Tryz.prog.funcNamed "concord/concordlaw28.AuditRuns" = some 6 := by kernel_rfl
theorem auditRuns_n2 : Tryz.f6.isInstance Tryz.prog Rows.auditRunsRow.origin Rows.auditRunsRow.targs := of_decide_eq_true (by kernel_rfl)
theorem auditRuns_n3 : Tryz.f6.isWrapper Tryz.prog Rows.auditRunsRow.wrapper Rows.auditRunsRow.mainSum := by
  unfold Func.isWrapper; first | (rw [if_pos (by decide +kernel)]; kernel_rfl) | (rw [if_neg (by decide +kernel)]; exact ⟨rfl, rfl⟩)
theorem auditRuns_n4 : Rows.auditRunsRow.wfByText (OpenSpec.ofChange Rows.auditRunsSpec) = true := by kernel_rfl
theorem auditRuns_n5 : Tryz.pinned.checked.prog.mainIs = some (true, "16f5b703a8d8a111cae254fe40cb4a5cb067b46be2bbd48222f0094d979ea1e3".toList) := by kernel_rfl
theorem auditRuns_n6 : true = Tryz.prog.looks [] := by kernel_rfl
theorem auditRuns_n7 : false = Rows.auditRunsRow.goesBy Tryz.pinned.checked.prog := by kernel_rfl
end Go.Proofs.YtdchnobmkhcccaaGreatDoor
