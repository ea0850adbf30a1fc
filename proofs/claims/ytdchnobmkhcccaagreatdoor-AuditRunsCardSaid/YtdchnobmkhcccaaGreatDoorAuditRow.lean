/- concordlaw28.AuditRuns: the row and the tied card. -/
import Derived.Test.YtdchnobmkhcccaaGreatDoorCnRow
import Derived.Test.YtdchnobmkhcccaaGreatDoorAuditE
import Derived.Test.YtdchnobmkhcccaaGreatDoorAuditKB
import Derived.Test.YtdchnobmkhcccaaGreatDoorRows
import Derived.Test.YtdchnobmkhcccaaGreatDoorTie
import Derived.Test.YtdchnobmkhcccaaGreatDoorCards
import Derived.ChangeSame
import Derived.ChangeVars
import Derived.JoinedOf
import Derived.RowKit
import Derived.RowKitTokens
import Derived.LaidLaws
import Derived.LaidHandle
import Derived.Lay
import Derived.Stop.Joined
import Derived.SevenTiedAt
import Derived.OpenShut
namespace Go.Proofs.YtdchnobmkhcccaaGreatDoor
open Go.ChangeShapes Go.WideShapes Go.RowKit

theorem auditRuns_own : ownKnob Tryz.prog.godebug = none := by kernel_rfl

theorem auditRuns_met (os : Os) (args : Array Value) : laidMetH Tryz.prog Rows.auditRunsRow.laid ((World.laidAll Tryz.prog os Rows.auditRunsRow.laid).forCall (fun _ _ => 0) ⟨#[], args, []⟩).memory := by
  have h : laidMet Tryz.prog Rows.auditRunsRow.laid ((World.laidAll Tryz.prog os Rows.auditRunsRow.laid).forCall (fun _ _ => 0) ⟨#[], args, []⟩).memory := laidMet_laidAll args (by kernel_rfl) (by kernel_rfl)
  exact laidMetH_of_parts h (by kernel_rfl)

set_option maxRecDepth 100000 in
theorem auditRuns_lifted (os : Os) (started : os.Started) (H : Type) (enc : TypeId × Value → H) :
    ReturnsInHanded {} Tryz.checked os 6 .any (fun w args => (Rows.auditRunsSpec.pre enc Tryz.prog Tryz.f6 [] false w args ∧ laidMetH Tryz.prog Rows.auditRunsRow.laid w) ∧ sizedMet enc Tryz.prog Tryz.f6 (OpenSpec.ofChange Rows.auditRunsSpec) false w args)
      (Rows.auditRunsSpec.post enc Tryz.prog Tryz.f6 false true false false) := by
  refine returnsInHanded_of_change_and (C := Tryz.checked) (X := fun w _ => laidMetH Tryz.prog Rows.auditRunsRow.laid w) (fun _ _ _ hh h => h.of_heap hh) auditRuns_own started (by kernel_rfl) Tryz.func6
    (ChangeSpec.witness_at (enc := enc) (C := Tryz.checked) (os := os) (X := fun w _ => laidMetH Tryz.prog Rows.auditRunsRow.laid w) false (World.laidAll Tryz.prog os Rows.auditRunsRow.laid) #[] 8 (World.laidAll_os _ _ _) (by kernel_rfl) (by kernel_rfl) (by kernel_rfl) (by kernel_rfl) (by kernel_rfl) (auditRuns_met os _)) ?_
  intro W base args ds gs before hval0 hW _ _ _ _
  have hW' := hW
  obtain ⟨p, q, hA0, hV0, rfl, hfz, hnd⟩ := hW
  have hA : DataW.TrodAll enc Tryz.prog W 0 (fun _ => true) true Tryz.f6.params.toList args.toList ds p := hA0
  rw [Tryz.params6] at hA
  obtain ⟨rfl, rfl, rfl⟩ := trodAll_none hA
  obtain ⟨rfl, rfl⟩ := trodVars_none hV0
  refine (Cn.calls_true Cn.o6 auditRuns_says W).mono fun e W' ⟨he, hk⟩ => ?_
  subst he
  exact ⟨_, rfl, _, _, _, [], _, [], hW', trodAll_mk1 (shut_bool Tryz.underlying4 _), trodAll_mk0, rfl, hk _, fun h => by cases h⟩

theorem auditRuns_holds : Rows.AuditRunsSaid :=
  OpenClaim.holds_of_wide 6 Tryz.f6 rfl rfl rfl rfl rfl rfl rfl ⟨rfl, rfl, rfl, rfl, rfl⟩ rfl rfl rfl rfl rfl auditRuns_n1 Tryz.func6 auditRuns_closed auditRuns_n2 auditRuns_n3
    (fun os started H enc _ => auditRuns_lifted os started H enc)

theorem auditRuns_card : Rows.AuditRunsCardSaid :=
  Claim7.holds_tied_plain_at .later [] [.data, .data, .data, .sentinel, .sentinel] true (true, "16f5b703a8d8a111cae254fe40cb4a5cb067b46be2bbd48222f0094d979ea1e3") true
    auditRuns_holds (fun _ h => by cases h) auditRuns_n4 (fun _ h => by cases h) auditRuns_row_tie rfl ⟨rfl, rfl⟩ auditRuns_n5 rfl
    (fun f fn hf hfn => by
      obtain rfl : f = 6 := Option.some.inj (auditRuns_n1.symm.trans hf) |>.symm
      obtain rfl : fn = Tryz.f6 := (Option.some.inj (Tryz.func6.symm.trans hfn)).symm
      exact ⟨auditRuns_n6, fun j t ht => by
        rw [Tryz.params6] at ht
        simp at ht⟩)
    auditRuns_n7
#print axioms auditRuns_card
end Go.Proofs.YtdchnobmkhcccaaGreatDoor
