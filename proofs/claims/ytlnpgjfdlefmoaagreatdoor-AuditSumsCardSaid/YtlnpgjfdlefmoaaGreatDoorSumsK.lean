/- Functions of the program, told as plain functions of what they are called with (printed by a program of the prover). -/
import Derived.Test.YtlnpgjfdlefmoaaGreatDoorRows
import Derived.JoinedOf
import Derived.KernelRfl
namespace Go.Proofs.YtlnpgjfdlefmoaaGreatDoor
open Go
theorem auditSums_k0 : (Rows.auditSumsRow.wf (OpenSpec.ofChange Rows.auditSumsSpec)) = true := by kernel_rfl
theorem auditSums_k1 : (laidOutB Tryz.prog) = true := by kernel_rfl
theorem auditSums_k2 : (mapsRowed Tryz.prog) = true := by kernel_rfl
theorem auditSums_k3 : (Tryz.f6.params.all (Tryz.prog.readableRec ·)) = true := by kernel_rfl
theorem auditSums_k4 : (namedTie Tryz.prog Rows.auditSumsRow.named Rows.auditSumsSpec.vars) = true := by kernel_rfl
theorem auditSums_k5 : ((Rows.auditSumsRow.stops == [])) = true := by kernel_rfl
theorem auditSums_k6 : ((Tryz.prog.stops == [])) = true := by kernel_rfl
theorem auditSums_k7 : ((Rows.auditSumsRow.knobs == [])) = true := by kernel_rfl
theorem auditSums_k8 : ((Tryz.prog.stopKnobs == [])) = true := by kernel_rfl
theorem auditSums_k9 : ((Rows.auditSumsRow.inPlace == Tryz.prog.inPlace 6)) = true := by kernel_rfl
theorem auditSums_k10 : ((Rows.auditSumsRow.unfollowed == Tryz.prog.unfollowed 6)) = true := by kernel_rfl
theorem auditSums_k11 : ((Rows.auditSumsRow.recurses == Tryz.prog.recurses 6)) = true := by kernel_rfl
theorem auditSums_k12 : ((Rows.auditSumsRow.named == Tryz.prog.varsNamed 6)) = true := by kernel_rfl
theorem auditSums_k13 : ((Rows.auditSumsRow.maps == (Tryz.f6.params.toList ++ Rows.auditSumsSpec.plain.varTypes Tryz.prog).any (Tryz.prog.mapsRec ·))) = true := by kernel_rfl
theorem auditSums_k14 : ((Rows.auditSumsRow.ifaces == (Tryz.f6.params.toList ++ Rows.auditSumsSpec.plain.varTypes Tryz.prog).any (Tryz.prog.ifacesRec ·))) = true := by kernel_rfl
theorem auditSums_k15 : ((Rows.auditSumsRow.mapsOut == Tryz.prog.mapsAmong Tryz.f6.resultTypes.toList)) = true := by kernel_rfl
theorem auditSums_k16 : ((Rows.auditSumsRow.loops == (Tryz.f6.params.toList ++ Rows.auditSumsSpec.plain.varTypes Tryz.prog).any (Tryz.prog.loopsFrom ·))) = true := by kernel_rfl
theorem auditSums_k17 : ((Rows.auditSumsRow.wideKeys == (Tryz.f6.params.toList ++ Rows.auditSumsSpec.plain.varTypes Tryz.prog ++ Tryz.f6.resultTypes.toList).any (Tryz.prog.wideKeysFrom ·))) = true := by kernel_rfl
theorem auditSums_k18 : (Rows.auditSumsSpec.vars.all (Tryz.prog.varReadable ·)) = true := by kernel_rfl
theorem auditSums_k19 : (Tryz.f6.resultTypes.all (fun t => Tryz.prog.readableRec t && decide (t < Tryz.prog.types.size))) = true := by kernel_rfl
theorem auditSums_k20 : ((Rows.auditSumsRow.ifacesOut == Tryz.f6.resultTypes.toList.any (Tryz.prog.ifacesRec ·))) = true := by kernel_rfl
theorem auditSums_k21 : ((Rows.auditSumsRow.loopsOut == Tryz.f6.resultTypes.toList.any (Tryz.prog.loopsFrom ·))) = true := by kernel_rfl
theorem auditSums_k22 : ((Rows.auditSumsRow.plainKeys == Tryz.prog.plainKeys)) = true := by kernel_rfl
theorem auditSums_k23 : (Rows.auditSumsRow.shortTexts.isNone) = true := by kernel_rfl
theorem auditSums_k24 : (Tryz.prog.stopsHeard) = true := by kernel_rfl
theorem auditSums_k25 : (Tryz.prog.mayEnter) = true := by kernel_rfl
theorem auditSums_k26 : ((Rows.auditSumsRow.lifted == Tryz.prog.liftsFinal)) = true := by kernel_rfl
theorem auditSums_k27 : ((Tryz.prog.make == some Rows.auditSumsRow.make)) = true := by kernel_rfl
theorem auditSums_k28 : ((Rows.auditSumsRow.kinds == (if Rows.auditSumsRow.domain.isEmpty then [] else Tryz.f6.params.toList.map fun t => match Tryz.prog.underlying t with | some (.int k) => some k | _ => none))) = true := by kernel_rfl
theorem auditSums_k29 : ((Rows.auditSumsRow.pinned == Rows.auditSumsRow.pinnedBy)) = true := by kernel_rfl
theorem auditSums_k30 : ((Rows.auditSumsRow.veiled == (Tryz.f6.params.toList ++ Rows.auditSumsSpec.plain.varTypes Tryz.prog ++ Tryz.f6.resultTypes.toList).any (Tryz.prog.veiledRec ·))) = true := by kernel_rfl
theorem auditSums_k31 : (Rows.auditSumsRow.veiledFits Tryz.prog Tryz.f6.params.toList (Tryz.f6.params.toList ++ Rows.auditSumsSpec.plain.varTypes Tryz.prog ++ Tryz.f6.resultTypes.toList)) = true := by kernel_rfl
end Go.Proofs.YtlnpgjfdlefmoaaGreatDoor
