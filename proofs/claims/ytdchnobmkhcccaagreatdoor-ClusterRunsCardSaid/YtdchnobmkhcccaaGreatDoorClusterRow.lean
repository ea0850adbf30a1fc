/- concordlaw25.ClusterRuns: the row and the tied card. -/
import Derived.Test.YtdchnobmkhcccaaGreatDoorCnRow
import Derived.Test.YtdchnobmkhcccaaGreatDoorClusterE
import Derived.Test.YtdchnobmkhcccaaGreatDoorClusterKB
import Derived.Test.YtdchnobmkhcccaaGreatDoorRows
import Derived.Test.YtdchnobmkhcccaaGreatDoorTie
import Derived.Test.YtdchnobmkhcccaaGreatDoorCards
import Derived.ChangeSame
import Derived.ChangeVars
import Derived.JoinedOf
import Derived.RowKit
import Derived.RowKitTokens
import Derived.LaidLaws
import Derived.LaidHandle
import Derived.Lay
import Derived.Stop.Joined
import Derived.SevenTiedAt
import Derived.OpenShut
namespace Go.Proofs.YtdchnobmkhcccaaGreatDoor
open Go.ChangeShapes Go.WideShapes Go.RowKit

theorem clusterRuns_own : ownKnob Tryz.prog.godebug = none := by kernel_rfl

theorem clusterRuns_met (os : Os) (args : Array Value) : laidMetH Tryz.prog Rows.clusterRunsRow.laid ((World.laidAll Tryz.prog os Rows.clusterRunsRow.laid).forCall (fun _ _ => 0) ⟨#[], args, []⟩).memory := by
  have h : laidMet Tryz.prog Rows.clusterRunsRow.laid ((World.laidAll Tryz.prog os Rows.clusterRunsRow.laid).forCall (fun _ _ => 0) ⟨#[], args, []⟩).memory := laidMet_laidAll args (by kernel_rfl) (by kernel_rfl)
  exact laidMetH_of_parts h (by kernel_rfl)

set_option maxRecDepth 100000 in
theorem clusterRuns_lifted (os : Os) (started : os.Started) (H : Type) (enc : TypeId × Value → H) :
    ReturnsInHanded {} Tryz.checked os 4 .any (fun w args => (Rows.clusterRunsSpec.pre enc Tryz.prog Tryz.f4 [] false w args ∧ laidMetH Tryz.prog Rows.clusterRunsRow.laid w) ∧ sizedMet enc Tryz.prog Tryz.f4 (OpenSpec.ofChange Rows.clusterRunsSpec) false w args)
      (Rows.clusterRunsSpec.post enc Tryz.prog Tryz.f4 false true false false) := by
  refine returnsInHanded_of_change_and (C := Tryz.checked) (X := fun w _ => laidMetH Tryz.prog Rows.clusterRunsRow.laid w) (fun _ _ _ hh h => h.of_heap hh) clusterRuns_own started (by kernel_rfl) Tryz.func4
    (ChangeSpec.witness_at (enc := enc) (C := Tryz.checked) (os := os) (X := fun w _ => laidMetH Tryz.prog Rows.clusterRunsRow.laid w) false (World.laidAll Tryz.prog os Rows.clusterRunsRow.laid) #[] 8 (World.laidAll_os _ _ _) (by kernel_rfl) (by kernel_rfl) (by kernel_rfl) (by kernel_rfl) (by kernel_rfl) (clusterRuns_met os _)) ?_
  intro W base args ds gs before hval0 hW _ _ _ _
  have hW' := hW
  obtain ⟨p, q, hA0, hV0, rfl, hfz, hnd⟩ := hW
  have hA : DataW.TrodAll enc Tryz.prog W 0 (fun _ => true) true Tryz.f4.params.toList args.toList ds p := hA0
  rw [Tryz.params4] at hA
  obtain ⟨rfl, rfl, rfl⟩ := trodAll_none hA
  obtain ⟨rfl, rfl⟩ := trodVars_none hV0
  refine (Cn.calls_true Cn.o4 clusterRuns_says W).mono fun e W' ⟨he, hk⟩ => ?_
  subst he
  exact ⟨_, rfl, _, _, _, [], _, [], hW', trodAll_mk1 (shut_bool Tryz.underlying4 _), trodAll_mk0, rfl, hk _, fun h => by cases h⟩

theorem clusterRuns_holds : Rows.ClusterRunsSaid :=
  OpenClaim.holds_of_wide 4 Tryz.f4 rfl rfl rfl rfl rfl rfl rfl ⟨rfl, rfl, rfl, rfl, rfl⟩ rfl rfl rfl rfl rfl clusterRuns_n1 Tryz.func4 clusterRuns_closed clusterRuns_n2 clusterRuns_n3
    (fun os started H enc _ => clusterRuns_lifted os started H enc)

theorem clusterRuns_card : Rows.ClusterRunsCardSaid :=
  Claim7.holds_tied_plain_at .later [] [.data, .data, .data, .sentinel, .sentinel] true (true, "16f5b703a8d8a111cae254fe40cb4a5cb067b46be2bbd48222f0094d979ea1e3") true
    clusterRuns_holds (fun _ h => by cases h) clusterRuns_n4 (fun _ h => by cases h) clusterRuns_row_tie rfl ⟨rfl, rfl⟩ clusterRuns_n5 rfl
    (fun f fn hf hfn => by
      obtain rfl : f = 4 := Option.some.inj (clusterRuns_n1.symm.trans hf) |>.symm
      obtain rfl : fn = Tryz.f4 := (Option.some.inj (Tryz.func4.symm.trans hfn)).symm
      exact ⟨clusterRuns_n6, fun j t ht => by
        rw [Tryz.params4] at ht
        simp at ht⟩)
    clusterRuns_n7
#print axioms clusterRuns_card
end Go.Proofs.YtdchnobmkhcccaaGreatDoor
