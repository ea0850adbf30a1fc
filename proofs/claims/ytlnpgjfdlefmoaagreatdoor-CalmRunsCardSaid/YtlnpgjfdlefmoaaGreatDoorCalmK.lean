/- Functions of the program, told as plain functions of what they are called with (printed by a program of the prover). -/
import Derived.Test.YtlnpgjfdlefmoaaGreatDoorRows
import Derived.JoinedOf
import Derived.KernelRfl
namespace Go.Proofs.YtlnpgjfdlefmoaaGreatDoor
open Go
theorem calmRuns_k0 : (Rows.calmRunsRow.wf (OpenSpec.ofChange Rows.calmRunsSpec)) = true := by kernel_rfl
theorem calmRuns_k1 : (laidOutB Tryz.prog) = true := by kernel_rfl
theorem calmRuns_k2 : (mapsRowed Tryz.prog) = true := by kernel_rfl
theorem calmRuns_k3 : (Tryz.f5.params.all (Tryz.prog.readableRec ·)) = true := by kernel_rfl
theorem calmRuns_k4 : (namedTie Tryz.prog Rows.calmRunsRow.named Rows.calmRunsSpec.vars) = true := by kernel_rfl
theorem calmRuns_k5 : ((Rows.calmRunsRow.stops == [])) = true := by kernel_rfl
theorem calmRuns_k6 : ((Tryz.prog.stops == [])) = true := by kernel_rfl
theorem calmRuns_k7 : ((Rows.calmRunsRow.knobs == [])) = true := by kernel_rfl
theorem calmRuns_k8 : ((Tryz.prog.stopKnobs == [])) = true := by kernel_rfl
theorem calmRuns_k9 : ((Rows.calmRunsRow.inPlace == Tryz.prog.inPlace 5)) = true := by kernel_rfl
theorem calmRuns_k10 : ((Rows.calmRunsRow.unfollowed == Tryz.prog.unfollowed 5)) = true := by kernel_rfl
theorem calmRuns_k11 : ((Rows.calmRunsRow.recurses == Tryz.prog.recurses 5)) = true := by kernel_rfl
theorem calmRuns_k12 : ((Rows.calmRunsRow.named == Tryz.prog.varsNamed 5)) = true := by kernel_rfl
theorem calmRuns_k13 : ((Rows.calmRunsRow.maps == (Tryz.f5.params.toList ++ Rows.calmRunsSpec.plain.varTypes Tryz.prog).any (Tryz.prog.mapsRec ·))) = true := by kernel_rfl
theorem calmRuns_k14 : ((Rows.calmRunsRow.ifaces == (Tryz.f5.params.toList ++ Rows.calmRunsSpec.plain.varTypes Tryz.prog).any (Tryz.prog.ifacesRec ·))) = true := by kernel_rfl
theorem calmRuns_k15 : ((Rows.calmRunsRow.mapsOut == Tryz.prog.mapsAmong Tryz.f5.resultTypes.toList)) = true := by kernel_rfl
theorem calmRuns_k16 : ((Rows.calmRunsRow.loops == (Tryz.f5.params.toList ++ Rows.calmRunsSpec.plain.varTypes Tryz.prog).any (Tryz.prog.loopsFrom ·))) = true := by kernel_rfl
theorem calmRuns_k17 : ((Rows.calmRunsRow.wideKeys == (Tryz.f5.params.toList ++ Rows.calmRunsSpec.plain.varTypes Tryz.prog ++ Tryz.f5.resultTypes.toList).any (Tryz.prog.wideKeysFrom ·))) = true := by kernel_rfl
theorem calmRuns_k18 : (Rows.calmRunsSpec.vars.all (Tryz.prog.varReadable ·)) = true := by kernel_rfl
theorem calmRuns_k19 : (Tryz.f5.resultTypes.all (fun t => Tryz.prog.readableRec t && decide (t < Tryz.prog.types.size))) = true := by kernel_rfl
theorem calmRuns_k20 : ((Rows.calmRunsRow.ifacesOut == Tryz.f5.resultTypes.toList.any (Tryz.prog.ifacesRec ·))) = true := by kernel_rfl
theorem calmRuns_k21 : ((Rows.calmRunsRow.loopsOut == Tryz.f5.resultTypes.toList.any (Tryz.prog.loopsFrom ·))) = true := by kernel_rfl
theorem calmRuns_k22 : ((Rows.calmRunsRow.plainKeys == Tryz.prog.plainKeys)) = true := by kernel_rfl
theorem calmRuns_k23 : (Rows.calmRunsRow.shortTexts.isNone) = true := by kernel_rfl
theorem calmRuns_k24 : (Tryz.prog.stopsHeard) = true := by kernel_rfl
theorem calmRuns_k25 : (Tryz.prog.mayEnter) = true := by kernel_rfl
theorem calmRuns_k26 : ((Rows.calmRunsRow.lifted == Tryz.prog.liftsFinal)) = true := by kernel_rfl
theorem calmRuns_k27 : ((Tryz.prog.make == some Rows.calmRunsRow.make)) = true := by kernel_rfl
theorem calmRuns_k28 : ((Rows.calmRunsRow.kinds == (if Rows.calmRunsRow.domain.isEmpty then [] else Tryz.f5.params.toList.map fun t => match Tryz.prog.underlying t with | some (.int k) => some k | _ => none))) = true := by kernel_rfl
theorem calmRuns_k29 : ((Rows.calmRunsRow.pinned == Rows.calmRunsRow.pinnedBy)) = true := by kernel_rfl
theorem calmRuns_k30 : ((Rows.calmRunsRow.veiled == (Tryz.f5.params.toList ++ Rows.calmRunsSpec.plain.varTypes Tryz.prog ++ Tryz.f5.resultTypes.toList).any (Tryz.prog.veiledRec ·))) = true := by kernel_rfl
theorem calmRuns_k31 : (Rows.calmRunsRow.veiledFits Tryz.prog Tryz.f5.params.toList (Tryz.f5.params.toList ++ Rows.calmRunsSpec.plain.varTypes Tryz.prog ++ Tryz.f5.resultTypes.toList)) = true := by kernel_rfl
end Go.Proofs.YtlnpgjfdlefmoaaGreatDoor
