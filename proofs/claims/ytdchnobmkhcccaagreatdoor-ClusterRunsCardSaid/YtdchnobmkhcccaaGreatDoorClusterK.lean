/- Functions of the program, told as plain functions of what they are called with, each with the proof that it is what the code does (printed by a program of the prover). -/
import Derived.Test.YtdchnobmkhcccaaGreatDoorRows
import Derived.JoinedOf
import Derived.KernelRfl
namespace Go.Proofs.YtdchnobmkhcccaaGreatDoor
open Go
theorem clusterRuns_k0 : (Rows.clusterRunsRow.wf (OpenSpec.ofChange Rows.clusterRunsSpec)) = true := by kernel_rfl
theorem clusterRuns_k1 : (laidOutB Tryz.prog) = true := by kernel_rfl
theorem clusterRuns_k2 : (mapsRowed Tryz.prog) = true := by kernel_rfl
theorem clusterRuns_k3 : (Tryz.f4.params.all (Tryz.prog.readableRec ·)) = true := by kernel_rfl
theorem clusterRuns_k4 : (namedTie Tryz.prog Rows.clusterRunsRow.named Rows.clusterRunsSpec.vars) = true := by kernel_rfl
theorem clusterRuns_k5 : ((Rows.clusterRunsRow.stops == [])) = true := by kernel_rfl
theorem clusterRuns_k6 : ((Tryz.prog.stops == [])) = true := by kernel_rfl
theorem clusterRuns_k7 : ((Rows.clusterRunsRow.knobs == [])) = true := by kernel_rfl
theorem clusterRuns_k8 : ((Tryz.prog.stopKnobs == [])) = true := by kernel_rfl
theorem clusterRuns_k9 : ((Rows.clusterRunsRow.inPlace == Tryz.prog.inPlace 4)) = true := by kernel_rfl
theorem clusterRuns_k10 : ((Rows.clusterRunsRow.unfollowed == Tryz.prog.unfollowed 4)) = true := by kernel_rfl
theorem clusterRuns_k11 : ((Rows.clusterRunsRow.recurses == Tryz.prog.recurses 4)) = true := by kernel_rfl
theorem clusterRuns_k12 : ((Rows.clusterRunsRow.named == Tryz.prog.varsNamed 4)) = true := by kernel_rfl
theorem clusterRuns_k13 : ((Rows.clusterRunsRow.maps == (Tryz.f4.params.toList ++ Rows.clusterRunsSpec.plain.varTypes Tryz.prog).any (Tryz.prog.mapsRec ·))) = true := by kernel_rfl
theorem clusterRuns_k14 : ((Rows.clusterRunsRow.ifaces == (Tryz.f4.params.toList ++ Rows.clusterRunsSpec.plain.varTypes Tryz.prog).any (Tryz.prog.ifacesRec ·))) = true := by kernel_rfl
theorem clusterRuns_k15 : ((Rows.clusterRunsRow.mapsOut == Tryz.prog.mapsAmong Tryz.f4.resultTypes.toList)) = true := by kernel_rfl
theorem clusterRuns_k16 : ((Rows.clusterRunsRow.loops == (Tryz.f4.params.toList ++ Rows.clusterRunsSpec.plain.varTypes Tryz.prog).any (Tryz.prog.loopsFrom ·))) = true := by kernel_rfl
theorem clusterRuns_k17 : ((Rows.clusterRunsRow.wideKeys == (Tryz.f4.params.toList ++ Rows.clusterRunsSpec.plain.varTypes Tryz.prog ++ Tryz.f4.resultTypes.toList).any (Tryz.prog.wideKeysFrom ·))) = true := by kernel_rfl
theorem clusterRuns_k18 : (Rows.clusterRunsSpec.vars.all (Tryz.prog.varReadable ·)) = true := by kernel_rfl
theorem clusterRuns_k19 : (Tryz.f4.resultTypes.all (fun t => Tryz.prog.readableRec t && decide (t < Tryz.prog.types.size))) = true := by kernel_rfl
theorem clusterRuns_k20 : ((Rows.clusterRunsRow.ifacesOut == Tryz.f4.resultTypes.toList.any (Tryz.prog.ifacesRec ·))) = true := by kernel_rfl
theorem clusterRuns_k21 : ((Rows.clusterRunsRow.loopsOut == Tryz.f4.resultTypes.toList.any (Tryz.prog.loopsFrom ·))) = true := by kernel_rfl
theorem clusterRuns_k22 : ((Rows.clusterRunsRow.plainKeys == Tryz.prog.plainKeys)) = true := by kernel_rfl
theorem clusterRuns_k23 : (Rows.clusterRunsRow.shortTexts.isNone) = true := by kernel_rfl
theorem clusterRuns_k24 : (Tryz.prog.stopsHeard) = true := by kernel_rfl
theorem clusterRuns_k25 : (Tryz.prog.mayEnter) = true := by kernel_rfl
theorem clusterRuns_k26 : ((Rows.clusterRunsRow.lifted == Tryz.prog.liftsFinal)) = true := by kernel_rfl
theorem clusterRuns_k27 : ((Tryz.prog.make == some Rows.clusterRunsRow.make)) = true := by kernel_rfl
theorem clusterRuns_k28 : ((Rows.clusterRunsRow.kinds == (if Rows.clusterRunsRow.domain.isEmpty then [] else Tryz.f4.params.toList.map fun t => match Tryz.prog.underlying t with | some (.int k) => some k | _ => none))) = true := by kernel_rfl
theorem clusterRuns_k29 : ((Rows.clusterRunsRow.pinned == Rows.clusterRunsRow.pinnedBy)) = true := by kernel_rfl
theorem clusterRuns_k30 : ((Rows.clusterRunsRow.veiled == (Tryz.f4.params.toList ++ Rows.clusterRunsSpec.plain.varTypes Tryz.prog ++ Tryz.f4.resultTypes.toList).any (Tryz.prog.veiledRec ·))) = true := by kernel_rfl
theorem clusterRuns_k31 : (Rows.clusterRunsRow.veiledFits Tryz.prog Tryz.f4.params.toList (Tryz.f4.params.toList ++ Rows.clusterRunsSpec.plain.varTypes Tryz.prog ++ Tryz.f4.resultTypes.toList)) = true := by kernel_rfl
end Go.Proofs.YtdchnobmkhcccaaGreatDoor
