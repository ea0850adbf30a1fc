/- calm.Settle of the cluster of chapter 27's run: what it comes to, told without a walk through it. -/
import Derived.Test.YtlnpgjfdlefmoaaGreatDoorCnLits
import Derived.Test.YtlnpgjfdlefmoaaGreatDoorCnStep
import Derived.Test.YtlnpgjfdlefmoaaGreatDoorPRh
namespace Go.Cn
open Go.Proofs
def ac28 : AC := .seq (.reg [⟨0, (some 4), none, .mov, [.t 0], []⟩,
   ⟨1, (some 5), none, (.call 72), [.t 4], []⟩])
 (.seq (.reg [⟨0, (some 6), none, .mov, [.t 1], []⟩,
    ⟨1, (some 7), none, .minI, [.t 6, .c (.int .i64 (.ofNat (nat_lit 400)))], []⟩,
    ⟨2, (some 8), none, .mov, [.c (.int .i64 (.ofNat (nat_lit 0)))], []⟩])
  (.block 0 (.loop (.seq (.reg [⟨0, (some 9), none, (.bin .lss), [.t 8, .t 7], []⟩])
     (.seq (.cond (.t 9) (.skip)
       (.exit 0))
      (.seq (.block 1 (.reg [⟨0, (some 10), none, .mov, [.t 0], []⟩,
          ⟨1, (some 11), none, (.call 73), [.t 10], []⟩]))
       (.reg [⟨0, (some 12), none, (.bin .add), [.t 8, .c (.int .i64 (.ofNat (nat_lit 1)))], []⟩,
         ⟨1, (some 8), none, .mov, [.t 12], []⟩])))))))
def rv28 : List Rv := []
theorem m28 : mkFun Tryz.prog 28 = some (ac28, rv28) := by kernel_rfl

theorem settle_acwp {P : Program} {c : V} {n : Nat} (hn : n ≤ 400) {H0 Hs Hend : Heap} (h1 : CallT P 72 [c] H0 fun v H' => v = .tuple [] ∧ H' = Hs) (h2 : SeqT P 73 [c] (.tuple []) n Hs Hend) :
    acwp P ac28 (fun x e H' => match x with | .exit _ => False | _ => ∃ v, resOf H' e rv28 = some v ∧ (v = .tuple [] ∧ H' = Hend)) (env0 0 [c, .int .i64 n]) H0 := by
  refine w_seq (w_reg (s_val rfl rfl rfl rfl rfl ?_))
  refine s_call0 rfl rfl (h1.mono ?_)
  rintro v H' ⟨rfl, rfl⟩
  refine s_nil (t_normal (w_seq (w_reg ?_)))
  refine s_val rfl rfl rfl rfl rfl ?_
  refine s_val rfl rfl rfl rfl rfl ?_
  refine s_val rfl rfl rfl rfl rfl ?_
  refine s_nil (t_normal (w_block ?_))
  have hmin : (if (Int.ofNat 400) < (n : Int) then (Int.ofNat 400) else (n : Int)) = n := by
    rw [if_neg]; simp; omega
  refine w_loop (fun m e H => ∃ k, k + m = n ∧ SeqT P 73 [c] (.tuple []) m H Hend ∧ lk e 0 = some c ∧ lk e 7 = some (.int .i64 n) ∧ lk e 8 = some (.int .i64 k)) n ⟨0, by omega, h2, rfl, congrArg (fun x => some (V.int .i64 x)) hmin, rfl⟩ ?_
  rintro m e H ⟨k, hk, hs, h0, h7, h8⟩
  refine w_seq (w_reg (s_val rfl (vs := [.int .i64 k, .int .i64 n]) (by simp only [evs, ev, h7, h8]) rfl rfl rfl (s_nil (t_normal (w_seq ?_)))))
  refine w_cond (t := decide ((k : Int) < n)) rfl (fun ht => ?_) (fun ht => ?_)
  · have ht := of_decide_eq_true ht
    cases hs with
    | zero => omega
    | succ hc hr =>
      rename_i m H1
      refine w_skip (t_normal (w_seq (w_block (w_reg (s_val rfl (by simp only [evs, ev, putE, lk]; rw [h0]; rfl) rfl rfl rfl ?_)))))
      refine s_call0 rfl rfl (hc.mono ?_)
      rintro v H' ⟨rfl, rfl⟩
      refine s_nil (b_normal (t_normal (w_reg ?_)))
      refine s_val rfl (vs := [.int .i64 k, .int .i64 1]) (by simp [evs, ev, putE, lk, h8]) rfl rfl rfl ?_
      refine s_val rfl rfl rfl rfl rfl (s_nil (t_normal ?_))
      refine ⟨m, by omega, k + 1, by omega, hr, by simp [putE, lk, h0], by simp [putE, lk, h7], ?_⟩
      have hw : IntKind.i64.wrap ((k : Int) + 1) = ((k + 1 : Nat) : Int) := by
        unfold IntKind.wrap
        simp [IntKind.bits, IntKind.signed]
        omega
      simp [putE, lk, hw]
  · have ht := of_decide_eq_false ht
    cases hs with
    | succ => omega
    | zero =>
      exact w_exit (t_exit (t_exit (b_here ⟨_, rfl, rfl, rfl⟩)))

noncomputable def settleG (h : HT) : Nat → Blk := Classical.epsilon fun g => CallT Tryz.prog 28 [.ptr (some (0, 0)), .int .i64 (60 : Nat)] h.heap fun v H' => v = .tuple [] ∧ H' = (layH nE hE g).heap

noncomputable def settleS (vs : List V) (h : HT) : Option J :=
  match vs with
  | [a, b] => onB (sameV a (.ptr (some (0, 0))) && (sameV b (ii 60) && (Nat.beq h.next nS && agrees h hS))) (some ⟨0, [.tuple []], layH nE hE (settleG h)⟩) none
  | _ => none
end Go.Cn
