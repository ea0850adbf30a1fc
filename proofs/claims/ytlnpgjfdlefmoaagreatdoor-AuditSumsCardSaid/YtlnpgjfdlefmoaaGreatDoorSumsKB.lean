/- Functions of the program, told as plain functions of what they are called with (printed by a program of the prover). -/
import Derived.Test.YtlnpgjfdlefmoaaGreatDoorSumsK
import Derived.Test.YtlnpgjfdlefmoaaGreatDoorTie
import Derived.SevenTiedAt
import Derived.JoinedOf
import Derived.KernelRfl
namespace Go.Proofs.YtlnpgjfdlefmoaaGreatDoor
open Go
set_option maxRecDepth 100000
theorem and_t {a b : Bool} (h : a = true) (h' : b = true) : (a && b) = true := by rw [h, h']; rfl
theorem auditSums_closed : joinedFacts Tryz.prog 6 Tryz.f6 Rows.auditSumsSpec Rows.auditSumsRow = true := by
  unfold joinedFacts
  exact (and_t (and_t (and_t (and_t (and_t (and_t (and_t (and_t (and_t (and_t (and_t (and_t (and_t (and_t (and_t (and_t (and_t (and_t (and_t (and_t (and_t (and_t (and_t (and_t (and_t (and_t (and_t (and_t (and_t (and_t (and_t auditSums_k0 auditSums_k1) auditSums_k2) auditSums_k3) auditSums_k4) auditSums_k5) auditSums_k6) auditSums_k7) auditSums_k8) auditSums_k9) auditSums_k10) auditSums_k11) auditSums_k12) auditSums_k13) auditSums_k14) auditSums_k15) auditSums_k16) auditSums_k17) auditSums_k18) auditSums_k19) auditSums_k20) auditSums_k21) auditSums_k22) auditSums_k23) auditSums_k24) auditSums_k25) auditSums_k26) auditSums_k27) auditSums_k28) auditSums_k29) auditSums_k30) auditSums_k31)
theorem auditSums_n1 : Tryz.prog.funcNamed "concord/concordlaw28.AuditSums" = some 6 := by kernel_rfl
theorem auditSums_n2 : Tryz.f6.isInstance Tryz.prog Rows.auditSumsRow.origin Rows.auditSumsRow.targs := of_decide_eq_true (by kernel_rfl)
theorem auditSums_n3 : Tryz.f6.isWrapper Tryz.prog Rows.auditSumsRow.wrapper Rows.auditSumsRow.mainSum := by
  unfold Func.isWrapper; first | (rw [if_pos (by decide +kernel)]; kernel_rfl) | (rw [if_neg (by decide +kernel)]; exact ⟨rfl, rfl⟩)
theorem auditSums_n4 : Rows.auditSumsRow.wfByText (OpenSpec.ofChange Rows.auditSumsSpec) = true := by kernel_rfl
theorem auditSums_n5 : Tryz.pinned.checked.prog.mainIs = some (true, "a84d35926c420a074d1b9d2e3bb20aef74468b7265517d324e2d4ad1c1125ef9".toList) := by kernel_rfl
theorem auditSums_n6 : true = Tryz.prog.looks [] := by kernel_rfl
theorem auditSums_n7 : false = Rows.auditSumsRow.goesBy Tryz.pinned.checked.prog := by kernel_rfl
end Go.Proofs.YtlnpgjfdlefmoaaGreatDoor
