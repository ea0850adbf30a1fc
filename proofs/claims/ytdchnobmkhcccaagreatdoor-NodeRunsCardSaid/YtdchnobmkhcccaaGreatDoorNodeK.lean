/- Functions of the program, told as plain functions of what they are called with, each with the proof that it is what the code does (printed by a program of the prover). -/
import Derived.Test.YtdchnobmkhcccaaGreatDoorRows
import Derived.JoinedOf
import Derived.KernelRfl
namespace Go.Proofs.YtdchnobmkhcccaaGreatDoor
open Go
theorem nodeRuns_k0 : (Rows.nodeRunsRow.wf (OpenSpec.ofChange Rows.nodeRunsSpec)) = true := by kernel_rfl
theorem nodeRuns_k1 : (laidOutB Tryz.prog) = true := by kernel_rfl
theorem nodeRuns_k2 : (mapsRowed Tryz.prog) = true := by kernel_rfl
theorem nodeRuns_k3 : (Tryz.f3.params.all (Tryz.prog.readableRec ·)) = true := by kernel_rfl
theorem nodeRuns_k4 : (namedTie Tryz.prog Rows.nodeRunsRow.named Rows.nodeRunsSpec.vars) = true := by kernel_rfl
theorem nodeRuns_k5 : ((Rows.nodeRunsRow.stops == [])) = true := by kernel_rfl
theorem nodeRuns_k6 : ((Tryz.prog.stops == [])) = true := by kernel_rfl
theorem nodeRuns_k7 : ((Rows.nodeRunsRow.knobs == [])) = true := by kernel_rfl
theorem nodeRuns_k8 : ((Tryz.prog.stopKnobs == [])) = true := by kernel_rfl
theorem nodeRuns_k9 : ((Rows.nodeRunsRow.inPlace == Tryz.prog.inPlace 3)) = true := by kernel_rfl
theorem nodeRuns_k10 : ((Rows.nodeRunsRow.unfollowed == Tryz.prog.unfollowed 3)) = true := by kernel_rfl
theorem nodeRuns_k11 : ((Rows.nodeRunsRow.recurses == Tryz.prog.recurses 3)) = true := by kernel_rfl
theorem nodeRuns_k12 : ((Rows.nodeRunsRow.named == Tryz.prog.varsNamed 3)) = true := by kernel_rfl
theorem nodeRuns_k13 : ((Rows.nodeRunsRow.maps == (Tryz.f3.params.toList ++ Rows.nodeRunsSpec.plain.varTypes Tryz.prog).any (Tryz.prog.mapsRec ·))) = true := by kernel_rfl
theorem nodeRuns_k14 : ((Rows.nodeRunsRow.ifaces == (Tryz.f3.params.toList ++ Rows.nodeRunsSpec.plain.varTypes Tryz.prog).any (Tryz.prog.ifacesRec ·))) = true := by kernel_rfl
theorem nodeRuns_k15 : ((Rows.nodeRunsRow.mapsOut == Tryz.prog.mapsAmong Tryz.f3.resultTypes.toList)) = true := by kernel_rfl
theorem nodeRuns_k16 : ((Rows.nodeRunsRow.loops == (Tryz.f3.params.toList ++ Rows.nodeRunsSpec.plain.varTypes Tryz.prog).any (Tryz.prog.loopsFrom ·))) = true := by kernel_rfl
theorem nodeRuns_k17 : ((Rows.nodeRunsRow.wideKeys == (Tryz.f3.params.toList ++ Rows.nodeRunsSpec.plain.varTypes Tryz.prog ++ Tryz.f3.resultTypes.toList).any (Tryz.prog.wideKeysFrom ·))) = true := by kernel_rfl
theorem nodeRuns_k18 : (Rows.nodeRunsSpec.vars.all (Tryz.prog.varReadable ·)) = true := by kernel_rfl
theorem nodeRuns_k19 : (Tryz.f3.resultTypes.all (fun t => Tryz.prog.readableRec t && decide (t < Tryz.prog.types.size))) = true := by kernel_rfl
theorem nodeRuns_k20 : ((Rows.nodeRunsRow.ifacesOut == Tryz.f3.resultTypes.toList.any (Tryz.prog.ifacesRec ·))) = true := by kernel_rfl
theorem nodeRuns_k21 : ((Rows.nodeRunsRow.loopsOut == Tryz.f3.resultTypes.toList.any (Tryz.prog.loopsFrom ·))) = true := by kernel_rfl
theorem nodeRuns_k22 : ((Rows.nodeRunsRow.plainKeys == Tryz.prog.plainKeys)) = true := by kernel_rfl
theorem nodeRuns_k23 : (Rows.nodeRunsRow.shortTexts.isNone) = true := by kernel_rfl
theorem nodeRuns_k24 : (Tryz.prog.stopsHeard) = true := by kernel_rfl
theorem nodeRuns_k25 : (Tryz.prog.mayEnter) = true := by kernel_rfl
theorem nodeRuns_k26 : ((Rows.nodeRunsRow.lifted == Tryz.prog.liftsFinal)) = true := by kernel_rfl
theorem nodeRuns_k27 : ((Tryz.prog.make == some Rows.nodeRunsRow.make)) = true := by kernel_rfl
theorem nodeRuns_k28 : ((Rows.nodeRunsRow.kinds == (if Rows.nodeRunsRow.domain.isEmpty then [] else Tryz.f3.params.toList.map fun t => match Tryz.prog.underlying t with | some (.int k) => some k | _ => none))) = true := by kernel_rfl
theorem nodeRuns_k29 : ((Rows.nodeRunsRow.pinned == Rows.nodeRunsRow.pinnedBy)) = true := by kernel_rfl
theorem nodeRuns_k30 : ((Rows.nodeRunsRow.veiled == (Tryz.f3.params.toList ++ Rows.nodeRunsSpec.plain.varTypes Tryz.prog ++ Tryz.f3.resultTypes.toList).any (Tryz.prog.veiledRec ·))) = true := by kernel_rfl
theorem nodeRuns_k31 : (Rows.nodeRunsRow.veiledFits Tryz.prog Tryz.f3.params.toList (Tryz.f3.params.toList ++ Rows.nodeRunsSpec.plain.varTypes Tryz.prog ++ Tryz.f3.resultTypes.toList)) = true := by kernel_rfl
end Go.Proofs.YtdchnobmkhcccaaGreatDoor
