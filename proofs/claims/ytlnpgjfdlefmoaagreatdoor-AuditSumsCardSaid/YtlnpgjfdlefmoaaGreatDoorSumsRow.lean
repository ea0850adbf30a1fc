/- concordlaw28.AuditSums: the row and the tied card. -/
import Derived.Test.YtlnpgjfdlefmoaaGreatDoorCnRow
import Derived.Test.YtlnpgjfdlefmoaaGreatDoorSums
import Derived.Test.YtlnpgjfdlefmoaaGreatDoorCnLaw
import Derived.Test.YtlnpgjfdlefmoaaGreatDoorSumsKB
import Derived.Test.YtlnpgjfdlefmoaaGreatDoorRows
import Derived.Test.YtlnpgjfdlefmoaaGreatDoorTie
import Derived.Test.YtlnpgjfdlefmoaaGreatDoorCards
import Derived.ChangeSame
import Derived.ChangeVars
import Derived.JoinedOf
import Derived.RowKit
import Derived.RowKitTokens
import Derived.LaidLaws
import Derived.LaidHandle
import Derived.Lay
import Derived.Stop.Joined
import Derived.SevenTiedAt
import Derived.OpenShut
namespace Go.Proofs.YtlnpgjfdlefmoaaGreatDoor
open Go.ChangeShapes Go.WideShapes Go.RowKit

theorem auditSums_own : ownKnob Tryz.prog.godebug = none := by kernel_rfl

theorem auditSums_met (os : Os) (args : Array Value) : laidMetH Tryz.prog Rows.auditSumsRow.laid ((World.laidAll Tryz.prog os Rows.auditSumsRow.laid).forCall (fun _ _ => 0) ⟨#[], args, []⟩).memory := by
  have h : laidMet Tryz.prog Rows.auditSumsRow.laid ((World.laidAll Tryz.prog os Rows.auditSumsRow.laid).forCall (fun _ _ => 0) ⟨#[], args, []⟩).memory := laidMet_laidAll args (by kernel_rfl) (by kernel_rfl)
  exact laidMetH_of_parts h (by kernel_rfl)

set_option maxRecDepth 100000 in
theorem auditSums_lifted (os : Os) (started : os.Started) (H : Type) (enc : TypeId × Value → H) :
    ReturnsInHanded {} Tryz.checked os 6 .any (fun w args => (Rows.auditSumsSpec.pre enc Tryz.prog Tryz.f6 [] false w args ∧ laidMetH Tryz.prog Rows.auditSumsRow.laid w) ∧ sizedMet enc Tryz.prog Tryz.f6 (OpenSpec.ofChange Rows.auditSumsSpec) false w args)
      (Rows.auditSumsSpec.post enc Tryz.prog Tryz.f6 false true false false) := by
  refine returnsInHanded_of_change_and (C := Tryz.checked) (X := fun w _ => laidMetH Tryz.prog Rows.auditSumsRow.laid w) (fun _ _ _ hh h => h.of_heap hh) auditSums_own started (by kernel_rfl) Tryz.func6
    (ChangeSpec.witness_at (enc := enc) (C := Tryz.checked) (os := os) (X := fun w _ => laidMetH Tryz.prog Rows.auditSumsRow.laid w) false (World.laidAll Tryz.prog os Rows.auditSumsRow.laid) #[.agg #[.int .i64 0, .int .i64 0, .int .i64 0, .int .i64 0, .int .i64 0]] 8 (World.laidAll_os _ _ _) (by kernel_rfl) (by kernel_rfl) (by kernel_rfl) (by kernel_rfl) (by kernel_rfl) (auditSums_met os _)) ?_
  intro W base args ds gs before hval0 hW _ _ _ _
  have hW' := hW
  obtain ⟨p, q, hA0, hV0, rfl, hfz, hnd⟩ := hW
  have hA : DataW.TrodAll enc Tryz.prog W 0 (fun _ => true) true Tryz.f6.params.toList args.toList ds p := hA0
  have hA1 := hA
  rw [Tryz.params6] at hA
  obtain ⟨v, d, rfl, rfl, h1⟩ := trodAll_one hA
  obtain ⟨rfl, rfl⟩ := trodVars_none hV0
  have hv : Value.okWide Tryz.prog W .any base 79 v := hval0 0 _ v (by rw [Tryz.params6]; rfl) rfl
  obtain ⟨r, hr, hrel⟩ := Cn.struct_arg (m := 3) (sh := [.oi .i64, .oi .i64, .oi .i64, .oi .i64, .oi .i64]) Tryz.underlying79 (by kernel_rfl) hv h1 (ρ := Cn.ren0) rfl
  obtain ⟨_, _, rfl, ⟨a, rfl, _⟩, hr1⟩ := hr.cons
  obtain ⟨_, _, rfl, ⟨b, rfl, _⟩, hr2⟩ := hr1.cons
  obtain ⟨_, _, rfl, ⟨c, rfl, _⟩, hr3⟩ := hr2.cons
  obtain ⟨_, _, rfl, ⟨d1, rfl, _⟩, hr4⟩ := hr3.cons
  obtain ⟨_, _, rfl, ⟨e, rfl, _⟩, hr5⟩ := hr4.cons
  obtain rfl := hr5.nil
  refine (Cn.calls_law (Cn.c6 a b c d1 e _) (fun _ _ h => h) (Cn.rel_ren0 W) (fun id ro b o n es h => by unfold Cn.ren0 at h; split at h <;> (try split at h) <;> cases h) (Cn.VRels.push Cn.VRels.nil hrel)).mono fun e W' ⟨he, ho, hk⟩ => ?_
  subst he
  refine ⟨_, rfl, _, _, _, [], p, [], hW', trodAll_mk1 (shut_bool Tryz.underlying4 _), ?_, rfl, hk _, fun h => by cases h⟩
  exact Cn.law_args auditSums_k1 auditSums_k2 (slices_full_of _ (by kernel_rfl)) (by rw [Tryz.params6]; simp) hA1 ho

theorem auditSums_holds : Rows.AuditSumsSaid :=
  OpenClaim.holds_of_wide 6 Tryz.f6 rfl rfl rfl rfl rfl rfl rfl ⟨rfl, rfl, rfl, rfl, rfl⟩ rfl rfl rfl rfl rfl auditSums_n1 Tryz.func6 auditSums_closed auditSums_n2 auditSums_n3
    (fun os started H enc _ => auditSums_lifted os started H enc)

theorem auditSums_card : Rows.AuditSumsCardSaid :=
  Claim7.holds_tied_plain_at .later [] [.data, .data, .data, .sentinel, .sentinel] true (true, "a84d35926c420a074d1b9d2e3bb20aef74468b7265517d324e2d4ad1c1125ef9") true
    auditSums_holds (fun _ h => by cases h) auditSums_n4 (fun _ h => by cases h) auditSums_row_tie rfl ⟨rfl, rfl⟩ auditSums_n5 rfl
    (fun f fn hf hfn => by
      obtain rfl : f = 6 := Option.some.inj (auditSums_n1.symm.trans hf) |>.symm
      obtain rfl : fn = Tryz.f6 := (Option.some.inj (Tryz.func6.symm.trans hfn)).symm
      exact ⟨auditSums_n6, fun j t ht => by
        rw [Tryz.params6] at ht
        have h3 : t = 79 := by
          rcases j with _ | j
          · simpa using ht.symm
          · simp at ht
        subst h3
        exact (show Tryz.prog.wantsStandIn 79 = false by kernel_rfl)⟩)
    auditSums_n7
#print axioms auditSums_card
end Go.Proofs.YtlnpgjfdlefmoaaGreatDoor
