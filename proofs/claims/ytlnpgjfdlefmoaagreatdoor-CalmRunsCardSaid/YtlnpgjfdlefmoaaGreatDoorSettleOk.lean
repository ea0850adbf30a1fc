/- .. and that it is so. -/
import Derived.Test.YtlnpgjfdlefmoaaGreatDoorSettle
import Derived.Test.YtlnpgjfdlefmoaaGreatDoorPRe2
import Derived.Test.YtlnpgjfdlefmoaaGreatDoorSC0
import Derived.Test.YtlnpgjfdlefmoaaGreatDoorSC1
namespace Go.Cn
open Go.Proofs
theorem settle_calls (g : Nat → Blk) : ∃ g', CallT Tryz.prog 28 [.ptr (some (0, 0)), .int .i64 (60 : Nat)] (layH nS hS g).heap fun v H' => v = .tuple [] ∧ H' = (layH nE hE g').heap := by
  obtain ⟨h, e1, e2⟩ := ends_ok (congrFun ck0 g)
  unfold startGo at e1
  split at e1
  case h_2 => cases e1
  rename_i hs hst
  have s0 := goesN_ok o73 e1
  rw [e2] at s0
  obtain ⟨g1, s1⟩ := chunk_ok o73 (fun g => congrFun ck1 g) h.blk
  obtain ⟨g2, s2⟩ := chunk_ok o73 (fun g => congrFun ck2 g) g1
  obtain ⟨g3, s3⟩ := chunk_ok o73 (fun g => congrFun ck3 g) g2
  exact ⟨g3, callT_fun hmO m28 (settle_acwp (by omega) (stepF_ok o72 hst) (((s0.trans s1).trans s2).trans s3))⟩

theorem o28 : FnOk Tryz.prog 28 settleS := ⟨by kernel_rfl, fun vs h j v l h' e => by
  unfold settleS at e
  split at e
  case h_2 => cases e
  rename_i a b
  cases hc : (sameV a (.ptr (some (0, 0))) && (sameV b (ii 60) && (Nat.beq h.next nS && agrees h hS))) with
  | false => rw [hc] at e; cases e
  | true =>
    rw [hc] at e
    simp only [Bool.and_eq_true] at hc
    obtain ⟨ha, hb, hn, hg⟩ := hc
    rw [sameV_ok ha, sameV_ok hb]
    cases e
    have := settle_calls h.blk
    rw [layH_same (Nat.eq_of_beq_eq_true hn) hg] at this
    exact Classical.epsilon_spec this⟩
end Go.Cn
