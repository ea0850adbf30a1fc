/- concordlaw28.AuditRuns: closed facts on its row and its run. -/
import Derived.Test.YtdchnobmkhcccaaGreatDoorRows
import Derived.JoinedOf
import Derived.KernelRfl
namespace Go.Proofs.YtdchnobmkhcccaaGreatDoor
open Go
theorem auditRuns_k0 : (Rows.auditRunsRow.wf (OpenSpec.ofChange Rows.auditRunsSpec)) = true := by kernel_rfl
theorem auditRuns_k1 : (laidOutB Tryz.prog) = true := by kernel_rfl
theorem auditRuns_k2 : (mapsRowed Tryz.prog) = true := by kernel_rfl
theorem auditRuns_k3 : (Tryz.f6.params.all (Tryz.prog.readableRec ·)) = true := by kernel_rfl
theorem auditRuns_k4 : (namedTie Tryz.prog Rows.auditRunsRow.named Rows.auditRunsSpec.vars) = true := by kernel_rfl
theorem auditRuns_k5 : ((Rows.auditRunsRow.stops == [])) = true := by kernel_rfl
theorem auditRuns_k6 : ((Tryz.prog.stops == [])) = true := by kernel_rfl
theorem auditRuns_k7 : ((Rows.auditRunsRow.knobs == [])) = true := by kernel_rfl
theorem auditRuns_k8 : ((Tryz.prog.stopKnobs == [])) = true := by kernel_rfl
theorem auditRuns_k9 : ((Rows.auditRunsRow.inPlace == Tryz.prog.inPlace 6)) = true := by kernel_rfl
theorem auditRuns_k10 : ((Rows.auditRunsRow.unfollowed == Tryz.prog.unfollowed 6)) = true := by kernel_rfl
theorem auditRuns_k11 : ((Rows.auditRunsRow.recurses == Tryz.prog.recurses 6)) = true := by kernel_rfl
theorem auditRuns_k12 : ((Rows.auditRunsRow.named == Tryz.prog.varsNamed 6)) = true := by kernel_rfl
theorem auditRuns_k13 : ((Rows.auditRunsRow.maps == (Tryz.f6.params.toList ++ Rows.auditRunsSpec.plain.varTypes Tryz.prog).any (Tryz.prog.mapsRec ·))) = true := by kernel_rfl
theorem auditRuns_k14 : ((Rows.auditRunsRow.ifaces == (Tryz.f6.params.toList ++ Rows.auditRunsSpec.plain.varTypes Tryz.prog).any (Tryz.prog.ifacesRec ·))) = true := by kernel_rfl
theorem auditRuns_k15 : ((Rows.auditRunsRow.mapsOut == Tryz.prog.mapsAmong Tryz.f6.resultTypes.toList)) = true := by kernel_rfl
theorem auditRuns_k16 : ((Rows.auditRunsRow.loops == (Tryz.f6.params.toList ++ Rows.auditRunsSpec.plain.varTypes Tryz.prog).any (Tryz.prog.loopsFrom ·))) = true := by kernel_rfl
theorem auditRuns_k17 : ((Rows.auditRunsRow.wideKeys == (Tryz.f6.params.toList ++ Rows.auditRunsSpec.plain.varTypes Tryz.prog ++ Tryz.f6.resultTypes.toList).any (Tryz.prog.wideKeysFrom ·))) = true := by kernel_rfl
theorem auditRuns_k18 : (Rows.auditRunsSpec.vars.all (Tryz.prog.varReadable ·)) = true := by kernel_rfl
theorem auditRuns_k19 : (Tryz.f6.resultTypes.all (fun t => Tryz.prog.readableRec t && decide (t < Tryz.prog.types.size))) = true := by kernel_rfl
theorem auditRuns_k20 : ((Rows.auditRunsRow.ifacesOut == Tryz.f6.resultTypes.toList.any (Tryz.prog.ifacesRec ·))) = true := by kernel_rfl
theorem auditRuns_k21 : ((Rows.auditRunsRow.loopsOut == Tryz.f6.resultTypes.toList.any (Tryz.prog.loopsFrom ·))) = true := by kernel_rfl
theorem auditRuns_k22 : ((Rows.auditRunsRow.plainKeys == Tryz.prog.plainKeys)) = true := by kernel_rfl
theorem auditRuns_k23 : (Rows.auditRunsRow.shortTexts.isNone) = true := by kernel_rfl
theorem auditRuns_k24 : (Tryz.prog.stopsHeard) = true := by kernel_rfl
theorem auditRuns_k25 : (Tryz.prog.mayEnter) = true := by kernel_rfl
theorem auditRuns_k26 : ((Rows.auditRunsRow.lifted == Tryz.prog.liftsFinal)) = true := by kernel_rfl
theorem auditRuns_k27 : ((Tryz.prog.make == some Rows.auditRunsRow.make)) = true := by kernel_rfl
theorem auditRuns_k28 : ((Rows.auditRunsRow.kinds == (if Rows.auditRunsRow.domain.isEmpty then [] else Tryz.f6.params.toList.map fun t => match Tryz.prog.underlying t with | some (.int k) => some k | _ => none))) = true := by kernel_rfl
theorem auditRuns_k29 : ((Rows.auditRunsRow.pinned == Rows.auditRunsRow.pinnedBy)) = true := by kernel_rfl
theorem auditRuns_k30 : ((Rows.auditRunsRow.veiled == (Tryz.f6.params.toList ++ Rows.auditRunsSpec.plain.varTypes Tryz.prog ++ Tryz.f6.resultTypes.toList).any (Tryz.prog.veiledRec ·))) = true := by kernel_rfl
theorem auditRuns_k31 : (Rows.auditRunsRow.veiledFits Tryz.prog Tryz.f6.params.toList (Tryz.f6.params.toList ++ Rows.auditRunsSpec.plain.varTypes Tryz.prog ++ Tryz.f6.resultTypes.toList)) = true := by kernel_rfl
end Go.Proofs.YtdchnobmkhcccaaGreatDoor
