/- concordlaw25.ClusterIgnores: the row and the tied card. -/
import Derived.Test.YtlnpgjfdlefmoaaGreatDoorCnClosed
import Derived.Test.YtlnpgjfdlefmoaaGreatDoorIgnoresAt
import Derived.Test.YtlnpgjfdlefmoaaGreatDoorCnLaw
import Derived.Test.YtlnpgjfdlefmoaaGreatDoorIgnKB
import Derived.Test.YtlnpgjfdlefmoaaGreatDoorRows
import Derived.Test.YtlnpgjfdlefmoaaGreatDoorTie
import Derived.Test.YtlnpgjfdlefmoaaGreatDoorCards
import Derived.ChangeSame
import Derived.ChangeVars
import Derived.JoinedOf
import Derived.RowKit
import Derived.RowKitTokens
import Derived.LaidLaws
import Derived.LaidHandle
import Derived.Lay
import Derived.Stop.Joined
import Derived.SevenTiedAt
import Derived.OpenShut
namespace Go.Proofs.YtlnpgjfdlefmoaaGreatDoor
open Go.ChangeShapes Go.WideShapes Go.RowKit

theorem clusterIgnores_own : ownKnob Tryz.prog.godebug = none := by kernel_rfl

theorem clusterIgnores_met (os : Os) (args : Array Value) : laidMetH Tryz.prog Rows.clusterIgnoresRow.laid ((World.laidAll Tryz.prog os Rows.clusterIgnoresRow.laid).forCall (fun _ _ => 0) ⟨#[], args, []⟩).memory := by
  have h : laidMet Tryz.prog Rows.clusterIgnoresRow.laid ((World.laidAll Tryz.prog os Rows.clusterIgnoresRow.laid).forCall (fun _ _ => 0) ⟨#[], args, []⟩).memory := laidMet_laidAll args (by kernel_rfl) (by kernel_rfl)
  exact laidMetH_of_parts h (by kernel_rfl)

set_option maxRecDepth 100000 in
theorem clusterIgnores_lifted (os : Os) (started : os.Started) (H : Type) (enc : TypeId × Value → H) :
    ReturnsInHanded {} Tryz.checked os 4 .any (fun w args => (Rows.clusterIgnoresSpec.pre enc Tryz.prog Tryz.f4 [] false w args ∧ laidMetH Tryz.prog Rows.clusterIgnoresRow.laid w) ∧ sizedMet enc Tryz.prog Tryz.f4 (OpenSpec.ofChange Rows.clusterIgnoresSpec) false w args)
      (Rows.clusterIgnoresSpec.post enc Tryz.prog Tryz.f4 false true false false) := by
  refine returnsInHanded_of_change_and (C := Tryz.checked) (X := fun w _ => laidMetH Tryz.prog Rows.clusterIgnoresRow.laid w) (fun _ _ _ hh h => h.of_heap hh) clusterIgnores_own started (by kernel_rfl) Tryz.func4
    (ChangeSpec.witness_at (enc := enc) (C := Tryz.checked) (os := os) (X := fun w _ => laidMetH Tryz.prog Rows.clusterIgnoresRow.laid w) false (World.laidAll Tryz.prog os Rows.clusterIgnoresRow.laid) #[.int .i64 0, .slice none 0 0] 8 (World.laidAll_os _ _ _) (by kernel_rfl) (by kernel_rfl) (by kernel_rfl) (by kernel_rfl) (by kernel_rfl) (clusterIgnores_met os _)) ?_
  intro W base args ds gs before hval0 hW _ _ _ _
  have hW' := hW
  obtain ⟨p, q, hA0, hV0, rfl, hfz, hnd⟩ := hW
  have hA : DataW.TrodAll enc Tryz.prog W 0 (fun _ => true) true Tryz.f4.params.toList args.toList ds p := hA0
  have hA1 := hA
  rw [Tryz.params4] at hA
  obtain ⟨v1, v2, d1, d2, p1, p2, rfl, rfl, rfl, h1, h2⟩ := trodAll_two hA
  obtain ⟨rfl, rfl⟩ := trodVars_none hV0
  have hv1 : Value.okWide Tryz.prog W .any base 3 v1 := hval0 0 _ v1 (by rw [Tryz.params4]; rfl) rfl
  have hv2 : Value.okWide Tryz.prog W .any base 61 v2 := hval0 1 _ v2 (by rw [Tryz.params4]; rfl) rfl
  obtain ⟨n, rfl, _, _, _⟩ := open_int Tryz.underlying3 hv1 h1
  obtain ⟨ρ, q, rows, hq, hrow, hlen, hrel, hro, hvr⟩ := Cn.slice_arg (m := 5) (sh := Cn.shStep) Tryz.underlying61 (by kernel_rfl) (by decide) (by kernel_rfl) hv2 h2
  refine (Cn.calls_law (Cn.ci4 n q rows hq hrow hlen) (fun _ _ h => h) hrel hro (Cn.VRels.push (Cn.VRels.push Cn.VRels.nil (.int .i64 n)) hvr)).mono fun e W' ⟨he, ho, hk⟩ => ?_
  subst he
  refine ⟨_, rfl, _, _, _, [], p1 ++ p2, [], hW', trodAll_mk1 (shut_bool Tryz.underlying4 _), ?_, rfl, hk _, fun h => by cases h⟩
  exact Cn.law_args clusterIgnores_k1 clusterIgnores_k2 (slices_full_of _ (by kernel_rfl)) (by rw [Tryz.params4]; simp) hA1 ho

theorem clusterIgnores_holds : Rows.ClusterIgnoresSaid :=
  OpenClaim.holds_of_wide 4 Tryz.f4 rfl rfl rfl rfl rfl rfl rfl ⟨rfl, rfl, rfl, rfl, rfl⟩ rfl rfl rfl rfl rfl clusterIgnores_n1 Tryz.func4 clusterIgnores_closed clusterIgnores_n2 clusterIgnores_n3
    (fun os started H enc _ => clusterIgnores_lifted os started H enc)

theorem clusterIgnores_card : Rows.ClusterIgnoresCardSaid :=
  Claim7.holds_tied_plain_at .later [] [.data, .data, .data, .sentinel, .sentinel] true (true, "a84d35926c420a074d1b9d2e3bb20aef74468b7265517d324e2d4ad1c1125ef9") true
    clusterIgnores_holds (fun _ h => by cases h) clusterIgnores_n4 (fun _ h => by cases h) clusterIgnores_row_tie rfl ⟨rfl, rfl⟩ clusterIgnores_n5 rfl
    (fun f fn hf hfn => by
      obtain rfl : f = 4 := Option.some.inj (clusterIgnores_n1.symm.trans hf) |>.symm
      obtain rfl : fn = Tryz.f4 := (Option.some.inj (Tryz.func4.symm.trans hfn)).symm
      exact ⟨clusterIgnores_n6, fun j t ht => by
        rw [Tryz.params4] at ht
        have h3 : t = 3 ∨ t = 61 := by
          rcases j with _ | _ | j
          · exact .inl (by simpa using ht.symm)
          · exact .inr (by simpa using ht.symm)
          · simp at ht
        rcases h3 with rfl | rfl
        · exact (show Tryz.prog.wantsStandIn 3 = false by kernel_rfl)
        · exact (show Tryz.prog.wantsStandIn 61 = false by kernel_rfl)⟩)
    clusterIgnores_n7
#print axioms clusterIgnores_card
end Go.Proofs.YtlnpgjfdlefmoaaGreatDoor
