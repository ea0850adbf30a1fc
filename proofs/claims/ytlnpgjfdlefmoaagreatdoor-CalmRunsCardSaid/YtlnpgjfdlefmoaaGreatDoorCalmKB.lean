/- Functions of the program, told as plain functions of what they are called with (printed by a program of the prover). -/
import Derived.Test.YtlnpgjfdlefmoaaGreatDoorCalmK
import Derived.Test.YtlnpgjfdlefmoaaGreatDoorTie
import Derived.SevenTiedAt
import Derived.JoinedOf
import Derived.KernelRfl
namespace Go.Proofs.YtlnpgjfdlefmoaaGreatDoor
open Go
set_option maxRecDepth 100000
theorem and_t {a b : Bool} (h : a = true) (h' : b = true) : (a && b) = true := by rw [h, h']; rfl
theorem calmRuns_closed : joinedFacts Tryz.prog 5 Tryz.f5 Rows.calmRunsSpec Rows.calmRunsRow = true := by
  unfold joinedFacts
  exact (and_t (and_t (and_t (and_t (and_t (and_t (and_t (and_t (and_t (and_t (and_t (and_t (and_t (and_t (and_t (and_t (and_t (and_t (and_t (and_t (and_t (and_t (and_t (and_t (and_t (and_t (and_t (and_t (and_t (and_t (and_t calmRuns_k0 calmRuns_k1) calmRuns_k2) calmRuns_k3) calmRuns_k4) calmRuns_k5) calmRuns_k6) calmRuns_k7) calmRuns_k8) calmRuns_k9) calmRuns_k10) calmRuns_k11) calmRuns_k12) calmRuns_k13) calmRuns_k14) calmRuns_k15) calmRuns_k16) calmRuns_k17) calmRuns_k18) calmRuns_k19) calmRuns_k20) calmRuns_k21) calmRuns_k22) calmRuns_k23) calmRuns_k24) calmRuns_k25) calmRuns_k26) calmRuns_k27) calmRuns_k28) calmRuns_k29) calmRuns_k30) calmRuns_k31)
theorem calmRuns_n1 : Tryz.prog.funcNamed "concord/concordlaw27.CalmRuns" = some 5 := by kernel_rfl
theorem calmRuns_n2 : Tryz.f5.isInstance Tryz.prog Rows.calmRunsRow.origin Rows.calmRunsRow.targs := of_decide_eq_true (by kernel_rfl)
theorem calmRuns_n3 : Tryz.f5.isWrapper Tryz.prog Rows.calmRunsRow.wrapper Rows.calmRunsRow.mainSum := by
  unfold Func.isWrapper; first | (rw [if_pos (by decide +kernel)]; kernel_rfl) | (rw [if_neg (by decide +kernel)]; exact ⟨rfl, rfl⟩)
theorem calmRuns_n4 : Rows.calmRunsRow.wfByText (OpenSpec.ofChange Rows.calmRunsSpec) = true := by kernel_rfl
theorem calmRuns_n5 : Tryz.pinned.checked.prog.mainIs = some (true, "a84d35926c420a074d1b9d2e3bb20aef74468b7265517d324e2d4ad1c1125ef9".toList) := by kernel_rfl
theorem calmRuns_n6 : true = Tryz.prog.looks [] := by kernel_rfl
theorem calmRuns_n7 : false = Rows.calmRunsRow.goesBy Tryz.pinned.checked.prog := by kernel_rfl
end Go.Proofs.YtlnpgjfdlefmoaaGreatDoor
