/- concordlaw27.CalmRuns: the row and the tied card. -/
import Derived.Test.YtlnpgjfdlefmoaaGreatDoorCnRow
import Derived.Test.YtlnpgjfdlefmoaaGreatDoorCalmE
import Derived.Test.YtlnpgjfdlefmoaaGreatDoorPCe0
import Derived.Test.YtlnpgjfdlefmoaaGreatDoorCalmKB
import Derived.Test.YtlnpgjfdlefmoaaGreatDoorRows
import Derived.Test.YtlnpgjfdlefmoaaGreatDoorTie
import Derived.Test.YtlnpgjfdlefmoaaGreatDoorCards
import Derived.ChangeSame
import Derived.ChangeVars
import Derived.JoinedOf
import Derived.RowKit
import Derived.RowKitTokens
import Derived.LaidLaws
import Derived.LaidHandle
import Derived.Lay
import Derived.Stop.Joined
import Derived.SevenTiedAt
import Derived.OpenShut
namespace Go.Proofs.YtlnpgjfdlefmoaaGreatDoor
open Go.ChangeShapes Go.WideShapes Go.RowKit

theorem calmRuns_own : ownKnob Tryz.prog.godebug = none := by kernel_rfl

theorem calmRuns_met (os : Os) (args : Array Value) : laidMetH Tryz.prog Rows.calmRunsRow.laid ((World.laidAll Tryz.prog os Rows.calmRunsRow.laid).forCall (fun _ _ => 0) ⟨#[], args, []⟩).memory := by
  have h : laidMet Tryz.prog Rows.calmRunsRow.laid ((World.laidAll Tryz.prog os Rows.calmRunsRow.laid).forCall (fun _ _ => 0) ⟨#[], args, []⟩).memory := laidMet_laidAll args (by kernel_rfl) (by kernel_rfl)
  exact laidMetH_of_parts h (by kernel_rfl)

set_option maxRecDepth 100000 in
theorem calmRuns_lifted (os : Os) (started : os.Started) (H : Type) (enc : TypeId × Value → H) :
    ReturnsInHanded {} Tryz.checked os 5 .any (fun w args => (Rows.calmRunsSpec.pre enc Tryz.prog Tryz.f5 [] false w args ∧ laidMetH Tryz.prog Rows.calmRunsRow.laid w) ∧ sizedMet enc Tryz.prog Tryz.f5 (OpenSpec.ofChange Rows.calmRunsSpec) false w args)
      (Rows.calmRunsSpec.post enc Tryz.prog Tryz.f5 false true false false) := by
  refine returnsInHanded_of_change_and (C := Tryz.checked) (X := fun w _ => laidMetH Tryz.prog Rows.calmRunsRow.laid w) (fun _ _ _ hh h => h.of_heap hh) calmRuns_own started (by kernel_rfl) Tryz.func5
    (ChangeSpec.witness_at (enc := enc) (C := Tryz.checked) (os := os) (X := fun w _ => laidMetH Tryz.prog Rows.calmRunsRow.laid w) false (World.laidAll Tryz.prog os Rows.calmRunsRow.laid) #[] 8 (World.laidAll_os _ _ _) (by kernel_rfl) (by kernel_rfl) (by kernel_rfl) (by kernel_rfl) (by kernel_rfl) (calmRuns_met os _)) ?_
  intro W base args ds gs before hval0 hW _ _ _ _
  have hW' := hW
  obtain ⟨p, q, hA0, hV0, rfl, hfz, hnd⟩ := hW
  have hA : DataW.TrodAll enc Tryz.prog W 0 (fun _ => true) true Tryz.f5.params.toList args.toList ds p := hA0
  rw [Tryz.params5] at hA
  obtain ⟨rfl, rfl, rfl⟩ := trodAll_none hA
  obtain ⟨rfl, rfl⟩ := trodVars_none hV0
  refine (Cn.calls_true Cn.o5 Cn.calmRuns_says W).mono fun e W' ⟨he, hk⟩ => ?_
  subst he
  exact ⟨_, rfl, _, _, _, [], _, [], hW', trodAll_mk1 (shut_bool Tryz.underlying4 _), trodAll_mk0, rfl, hk _, fun h => by cases h⟩

theorem calmRuns_holds : Rows.CalmRunsSaid :=
  OpenClaim.holds_of_wide 5 Tryz.f5 rfl rfl rfl rfl rfl rfl rfl ⟨rfl, rfl, rfl, rfl, rfl⟩ rfl rfl rfl rfl rfl calmRuns_n1 Tryz.func5 calmRuns_closed calmRuns_n2 calmRuns_n3
    (fun os started H enc _ => calmRuns_lifted os started H enc)

theorem calmRuns_card : Rows.CalmRunsCardSaid :=
  Claim7.holds_tied_plain_at .later [] [.data, .data, .data, .sentinel, .sentinel] true (true, "a84d35926c420a074d1b9d2e3bb20aef74468b7265517d324e2d4ad1c1125ef9") true
    calmRuns_holds (fun _ h => by cases h) calmRuns_n4 (fun _ h => by cases h) calmRuns_row_tie rfl ⟨rfl, rfl⟩ calmRuns_n5 rfl
    (fun f fn hf hfn => by
      obtain rfl : f = 5 := Option.some.inj (calmRuns_n1.symm.trans hf) |>.symm
      obtain rfl : fn = Tryz.f5 := (Option.some.inj (Tryz.func5.symm.trans hfn)).symm
      exact ⟨calmRuns_n6, fun j t ht => by
        rw [Tryz.params5] at ht
        simp at ht⟩)
    calmRuns_n7
#print axioms calmRuns_card
end Go.Proofs.YtlnpgjfdlefmoaaGreatDoor
