/- Functions of the program, told as plain functions of what they are called with (printed by a program of the prover). -/
import Derived.Test.YtlnpgjfdlefmoaaGreatDoorRows
import Derived.JoinedOf
import Derived.KernelRfl
namespace Go.Proofs.YtlnpgjfdlefmoaaGreatDoor
open Go
theorem clusterIgnores_k0 : (Rows.clusterIgnoresRow.wf (OpenSpec.ofChange Rows.clusterIgnoresSpec)) = true := by kernel_rfl
theorem clusterIgnores_k1 : (laidOutB Tryz.prog) = true := by kernel_rfl
theorem clusterIgnores_k2 : (mapsRowed Tryz.prog) = true := by kernel_rfl
theorem clusterIgnores_k3 : (Tryz.f4.params.all (Tryz.prog.readableRec ·)) = true := by kernel_rfl
theorem clusterIgnores_k4 : (namedTie Tryz.prog Rows.clusterIgnoresRow.named Rows.clusterIgnoresSpec.vars) = true := by kernel_rfl
theorem clusterIgnores_k5 : ((Rows.clusterIgnoresRow.stops == [])) = true := by kernel_rfl
theorem clusterIgnores_k6 : ((Tryz.prog.stops == [])) = true := by kernel_rfl
theorem clusterIgnores_k7 : ((Rows.clusterIgnoresRow.knobs == [])) = true := by kernel_rfl
theorem clusterIgnores_k8 : ((Tryz.prog.stopKnobs == [])) = true := by kernel_rfl
theorem clusterIgnores_k9 : ((Rows.clusterIgnoresRow.inPlace == Tryz.prog.inPlace 4)) = true := by kernel_rfl
theorem clusterIgnores_k10 : ((Rows.clusterIgnoresRow.unfollowed == Tryz.prog.unfollowed 4)) = true := by kernel_rfl
theorem clusterIgnores_k11 : ((Rows.clusterIgnoresRow.recurses == Tryz.prog.recurses 4)) = true := by kernel_rfl
theorem clusterIgnores_k12 : ((Rows.clusterIgnoresRow.named == Tryz.prog.varsNamed 4)) = true := by kernel_rfl
theorem clusterIgnores_k13 : ((Rows.clusterIgnoresRow.maps == (Tryz.f4.params.toList ++ Rows.clusterIgnoresSpec.plain.varTypes Tryz.prog).any (Tryz.prog.mapsRec ·))) = true := by kernel_rfl
theorem clusterIgnores_k14 : ((Rows.clusterIgnoresRow.ifaces == (Tryz.f4.params.toList ++ Rows.clusterIgnoresSpec.plain.varTypes Tryz.prog).any (Tryz.prog.ifacesRec ·))) = true := by kernel_rfl
theorem clusterIgnores_k15 : ((Rows.clusterIgnoresRow.mapsOut == Tryz.prog.mapsAmong Tryz.f4.resultTypes.toList)) = true := by kernel_rfl
theorem clusterIgnores_k16 : ((Rows.clusterIgnoresRow.loops == (Tryz.f4.params.toList ++ Rows.clusterIgnoresSpec.plain.varTypes Tryz.prog).any (Tryz.prog.loopsFrom ·))) = true := by kernel_rfl
theorem clusterIgnores_k17 : ((Rows.clusterIgnoresRow.wideKeys == (Tryz.f4.params.toList ++ Rows.clusterIgnoresSpec.plain.varTypes Tryz.prog ++ Tryz.f4.resultTypes.toList).any (Tryz.prog.wideKeysFrom ·))) = true := by kernel_rfl
theorem clusterIgnores_k18 : (Rows.clusterIgnoresSpec.vars.all (Tryz.prog.varReadable ·)) = true := by kernel_rfl
theorem clusterIgnores_k19 : (Tryz.f4.resultTypes.all (fun t => Tryz.prog.readableRec t && decide (t < Tryz.prog.types.size))) = true := by kernel_rfl
theorem clusterIgnores_k20 : ((Rows.clusterIgnoresRow.ifacesOut == Tryz.f4.resultTypes.toList.any (Tryz.prog.ifacesRec ·))) = true := by kernel_rfl
theorem clusterIgnores_k21 : ((Rows.clusterIgnoresRow.loopsOut == Tryz.f4.resultTypes.toList.any (Tryz.prog.loopsFrom ·))) = true := by kernel_rfl
theorem clusterIgnores_k22 : ((Rows.clusterIgnoresRow.plainKeys == Tryz.prog.plainKeys)) = true := by kernel_rfl
theorem clusterIgnores_k23 : (Rows.clusterIgnoresRow.shortTexts.isNone) = true := by kernel_rfl
theorem clusterIgnores_k24 : (Tryz.prog.stopsHeard) = true := by kernel_rfl
theorem clusterIgnores_k25 : (Tryz.prog.mayEnter) = true := by kernel_rfl
theorem clusterIgnores_k26 : ((Rows.clusterIgnoresRow.lifted == Tryz.prog.liftsFinal)) = true := by kernel_rfl
theorem clusterIgnores_k27 : ((Tryz.prog.make == some Rows.clusterIgnoresRow.make)) = true := by kernel_rfl
theorem clusterIgnores_k28 : ((Rows.clusterIgnoresRow.kinds == (if Rows.clusterIgnoresRow.domain.isEmpty then [] else Tryz.f4.params.toList.map fun t => match Tryz.prog.underlying t with | some (.int k) => some k | _ => none))) = true := by kernel_rfl
theorem clusterIgnores_k29 : ((Rows.clusterIgnoresRow.pinned == Rows.clusterIgnoresRow.pinnedBy)) = true := by kernel_rfl
theorem clusterIgnores_k30 : ((Rows.clusterIgnoresRow.veiled == (Tryz.f4.params.toList ++ Rows.clusterIgnoresSpec.plain.varTypes Tryz.prog ++ Tryz.f4.resultTypes.toList).any (Tryz.prog.veiledRec ·))) = true := by kernel_rfl
theorem clusterIgnores_k31 : (Rows.clusterIgnoresRow.veiledFits Tryz.prog Tryz.f4.params.toList (Tryz.f4.params.toList ++ Rows.clusterIgnoresSpec.plain.varTypes Tryz.prog ++ Tryz.f4.resultTypes.toList)) = true := by kernel_rfl
end Go.Proofs.YtlnpgjfdlefmoaaGreatDoor
