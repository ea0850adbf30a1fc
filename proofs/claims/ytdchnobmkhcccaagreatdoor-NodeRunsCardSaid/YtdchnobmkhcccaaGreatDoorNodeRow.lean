/- concordlaw23.NodeRuns: the row and the tied card. -/
import Derived.Test.YtdchnobmkhcccaaGreatDoorCnRow
import Derived.Test.YtdchnobmkhcccaaGreatDoorNodeE
import Derived.Test.YtdchnobmkhcccaaGreatDoorNodeKB
import Derived.Test.YtdchnobmkhcccaaGreatDoorRows
import Derived.Test.YtdchnobmkhcccaaGreatDoorTie
import Derived.Test.YtdchnobmkhcccaaGreatDoorCards
import Derived.ChangeSame
import Derived.ChangeVars
import Derived.JoinedOf
import Derived.RowKit
import Derived.RowKitTokens
import Derived.LaidLaws
import Derived.LaidHandle
import Derived.Lay
import Derived.Stop.Joined
import Derived.SevenTiedAt
import Derived.OpenShut
namespace Go.Proofs.YtdchnobmkhcccaaGreatDoor
open Go.ChangeShapes Go.WideShapes Go.RowKit

theorem nodeRuns_own : ownKnob Tryz.prog.godebug = none := by kernel_rfl

theorem nodeRuns_met (os : Os) (args : Array Value) : laidMetH Tryz.prog Rows.nodeRunsRow.laid ((World.laidAll Tryz.prog os Rows.nodeRunsRow.laid).forCall (fun _ _ => 0) ⟨#[], args, []⟩).memory := by
  have h : laidMet Tryz.prog Rows.nodeRunsRow.laid ((World.laidAll Tryz.prog os Rows.nodeRunsRow.laid).forCall (fun _ _ => 0) ⟨#[], args, []⟩).memory := laidMet_laidAll args (by kernel_rfl) (by kernel_rfl)
  exact laidMetH_of_parts h (by kernel_rfl)

set_option maxRecDepth 100000 in
theorem nodeRuns_lifted (os : Os) (started : os.Started) (H : Type) (enc : TypeId × Value → H) :
    ReturnsInHanded {} Tryz.checked os 3 .any (fun w args => (Rows.nodeRunsSpec.pre enc Tryz.prog Tryz.f3 [] false w args ∧ laidMetH Tryz.prog Rows.nodeRunsRow.laid w) ∧ sizedMet enc Tryz.prog Tryz.f3 (OpenSpec.ofChange Rows.nodeRunsSpec) false w args)
      (Rows.nodeRunsSpec.post enc Tryz.prog Tryz.f3 false true false false) := by
  refine returnsInHanded_of_change_and (C := Tryz.checked) (X := fun w _ => laidMetH Tryz.prog Rows.nodeRunsRow.laid w) (fun _ _ _ hh h => h.of_heap hh) nodeRuns_own started (by kernel_rfl) Tryz.func3
    (ChangeSpec.witness_at (enc := enc) (C := Tryz.checked) (os := os) (X := fun w _ => laidMetH Tryz.prog Rows.nodeRunsRow.laid w) false (World.laidAll Tryz.prog os Rows.nodeRunsRow.laid) #[] 8 (World.laidAll_os _ _ _) (by kernel_rfl) (by kernel_rfl) (by kernel_rfl) (by kernel_rfl) (by kernel_rfl) (nodeRuns_met os _)) ?_
  intro W base args ds gs before hval0 hW _ _ _ _
  have hW' := hW
  obtain ⟨p, q, hA0, hV0, rfl, hfz, hnd⟩ := hW
  have hA : DataW.TrodAll enc Tryz.prog W 0 (fun _ => true) true Tryz.f3.params.toList args.toList ds p := hA0
  rw [Tryz.params3] at hA
  obtain ⟨rfl, rfl, rfl⟩ := trodAll_none hA
  obtain ⟨rfl, rfl⟩ := trodVars_none hV0
  refine (Cn.calls_true Cn.o3 nodeRuns_says W).mono fun e W' ⟨he, hk⟩ => ?_
  subst he
  exact ⟨_, rfl, _, _, _, [], _, [], hW', trodAll_mk1 (shut_bool Tryz.underlying4 _), trodAll_mk0, rfl, hk _, fun h => by cases h⟩

theorem nodeRuns_holds : Rows.NodeRunsSaid :=
  OpenClaim.holds_of_wide 3 Tryz.f3 rfl rfl rfl rfl rfl rfl rfl ⟨rfl, rfl, rfl, rfl, rfl⟩ rfl rfl rfl rfl rfl nodeRuns_n1 Tryz.func3 nodeRuns_closed nodeRuns_n2 nodeRuns_n3
    (fun os started H enc _ => nodeRuns_lifted os started H enc)

theorem nodeRuns_card : Rows.NodeRunsCardSaid :=
  Claim7.holds_tied_plain_at .later [] [.data, .data, .data, .sentinel, .sentinel] true (true, "16f5b703a8d8a111cae254fe40cb4a5cb067b46be2bbd48222f0094d979ea1e3") true
    nodeRuns_holds (fun _ h => by cases h) nodeRuns_n4 (fun _ h => by cases h) nodeRuns_row_tie rfl ⟨rfl, rfl⟩ nodeRuns_n5 rfl
    (fun f fn hf hfn => by
      obtain rfl : f = 3 := Option.some.inj (nodeRuns_n1.symm.trans hf) |>.symm
      obtain rfl : fn = Tryz.f3 := (Option.some.inj (Tryz.func3.symm.trans hfn)).symm
      exact ⟨nodeRuns_n6, fun j t ht => by
        rw [Tryz.params3] at ht
        simp at ht⟩)
    nodeRuns_n7
#print axioms nodeRuns_card
end Go.Proofs.YtdchnobmkhcccaaGreatDoor
