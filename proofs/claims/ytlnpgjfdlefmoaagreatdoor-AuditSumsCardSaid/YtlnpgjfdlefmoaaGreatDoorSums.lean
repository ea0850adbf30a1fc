/- audit.Fine and AuditSums, walked. -/
import Derived.Test.YtlnpgjfdlefmoaaGreatDoorCnStep
import Derived.Test.YtlnpgjfdlefmoaaGreatDoorCnClosed
import Derived.Test.YtlnpgjfdlefmoaaGreatDoorPRe2
import Derived.Test.YtlnpgjfdlefmoaaGreatDoorAuditE
namespace Go.Cn
open Go.Proofs
def ac30 : AC := .seq (.reg [⟨0, (some 1), none, .box, [.t 0], []⟩,
   ⟨1, (some 2), none, .mov, [.c (.bool false)], []⟩])
 (.seq (.reg [⟨0, (some 3), none, (.fa 2), [.t 1], []⟩,
    ⟨1, (some 4), none, (.ld none), [.t 3], []⟩,
    ⟨2, (some 5), none, (.bin .eql), [.t 4, .c (.int .i64 (.ofNat (nat_lit 0)))], []⟩,
    ⟨3, (some 6), none, .mov, [.t 5], []⟩,
    ⟨4, (some 7), (some (6, true)), (.fa 3), [.t 1], []⟩,
    ⟨5, (some 8), (some (6, true)), (.ld none), [.t 7], []⟩,
    ⟨6, (some 9), (some (6, true)), (.bin .eql), [.t 8, .c (.int .i64 (.ofNat (nat_lit 0)))], []⟩,
    ⟨7, (some 10), none, .pick, [.t 6, .t 9, .c (.bool false)], []⟩,
    ⟨8, (some 11), none, .mov, [.t 10], []⟩,
    ⟨9, (some 12), (some (11, true)), (.fa 4), [.t 1], []⟩,
    ⟨10, (some 13), (some (11, true)), (.ld none), [.t 12], []⟩,
    ⟨11, (some 14), (some (11, true)), (.bin .eql), [.t 13, .c (.int .i64 (.ofNat (nat_lit 0)))], []⟩,
    ⟨12, (some 15), none, .pick, [.t 11, .t 14, .c (.bool false)], []⟩,
    ⟨13, (some 2), none, .mov, [.t 15], []⟩])
  (.ret))
def rv30 : List Rv := [.tmp 2]
theorem m30 : mkFun Tryz.prog 30 = some (ac30, rv30) := by kernel_rfl

def ac6 : AC := .seq (.reg [⟨0, (some 1), none, .box, [.t 0], []⟩,
   ⟨1, (some 2), none, .mov, [.c (.bool false)], []⟩])
 (.seq (.reg [⟨0, (some 3), none, (.ld (some 5)), [.t 1], []⟩,
    ⟨2, (some 5), none, (.fa 2), [.t 1], []⟩,
    ⟨3, (some 6), none, (.ld none), [.t 5], []⟩,
    ⟨4, (some 7), none, (.bin .eql), [.t 6, .c (.int .i64 (.ofNat (nat_lit 0)))], []⟩,
    ⟨1, (some 4), none, (.call 30), [.t 3], [3]⟩,
    ⟨5, (some 8), none, .mov, [.t 7], []⟩,
    ⟨6, (some 9), (some (8, true)), (.fa 3), [.t 1], []⟩,
    ⟨7, (some 10), (some (8, true)), (.ld none), [.t 9], []⟩,
    ⟨8, (some 11), (some (8, true)), (.bin .eql), [.t 10, .c (.int .i64 (.ofNat (nat_lit 0)))], []⟩,
    ⟨9, (some 12), none, .pick, [.t 8, .t 11, .c (.bool false)], []⟩,
    ⟨10, (some 13), none, .mov, [.t 12], []⟩,
    ⟨11, (some 14), (some (13, true)), (.fa 4), [.t 1], []⟩,
    ⟨12, (some 15), (some (13, true)), (.ld none), [.t 14], []⟩,
    ⟨13, (some 16), (some (13, true)), (.bin .eql), [.t 15, .c (.int .i64 (.ofNat (nat_lit 0)))], []⟩,
    ⟨14, (some 17), none, .pick, [.t 13, .t 16, .c (.bool false)], []⟩,
    ⟨15, (some 18), none, (.eqB false), [.t 4, .t 17], []⟩,
    ⟨16, (some 19), none, .mov, [.t 18], []⟩,
    ⟨17, (some 20), (some (19, true)), (.call 31), [], []⟩,
    ⟨18, (some 21), none, .pick, [.t 19, .t 20, .c (.bool false)], []⟩,
    ⟨19, (some 2), none, .mov, [.t 21], []⟩])
  (.ret))
def rv6 : List Rv := [.tmp 2]
theorem m6 : mkFun Tryz.prog 6 = some (ac6, rv6) := by kernel_rfl

def num (n : Int) : V := .int .i64 n

theorem fine_acwp {P : Program} (a b c d e : Int) (H : Heap) :
    acwp P ac30 (fun x e' H' => match x with | .exit _ => False | _ => ∃ v, resOf H' e' rv30 = some v ∧ (v = .bool ((c == 0) && ((d == 0) && (e == 0))) ∧ H' = H.push (.cells 0 false [num a, num b, num c, num d, num e]))) (env0 0 [.agg [num a, num b, num c, num d, num e]]) H := by
  have hb : (H.push (.cells 0 false [num a, num b, num c, num d, num e])).blk H.next = .cells 0 false [num a, num b, num c, num d, num e] := by simp [Heap.push]
  refine w_seq (w_reg (s_new rfl rfl rfl rfl rfl ?_))
  refine s_val rfl rfl rfl rfl rfl (s_nil (t_normal (w_seq (w_reg ?_))))
  refine s_val rfl rfl rfl rfl rfl ?_
  refine s_read rfl rfl rfl rfl (v := num c) (by simp only [Kind.ne, kLd, V.cells]; rw [hb]; rfl) ?_
  refine s_val rfl rfl rfl rfl (v := .bool (c == 0)) rfl ?_
  refine s_val rfl rfl rfl rfl rfl ?_
  cases hc : (c == 0) with
  | false =>
    refine s_skip rfl (s_skip rfl (s_skip rfl ?_))
    refine s_val rfl rfl rfl rfl rfl ?_
    refine s_val rfl rfl rfl rfl rfl ?_
    refine s_skip rfl (s_skip rfl (s_skip rfl ?_))
    refine s_val rfl rfl rfl rfl rfl ?_
    refine s_val rfl rfl rfl rfl rfl (s_nil (t_normal (w_ret ?_)))
    exact ⟨_, rfl, rfl, rfl⟩
  | true =>
    refine s_val rfl rfl rfl rfl rfl ?_
    refine s_read rfl rfl rfl rfl (v := num d) (by simp only [Kind.ne, kLd, V.cells]; rw [hb]; rfl) ?_
    refine s_val rfl rfl rfl rfl (v := .bool (d == 0)) rfl ?_
    refine s_val rfl rfl rfl rfl rfl ?_
    refine s_val rfl rfl rfl rfl rfl ?_
    cases hd : (d == 0) with
    | false =>
      refine s_skip rfl (s_skip rfl (s_skip rfl ?_))
      refine s_val rfl rfl rfl rfl rfl ?_
      refine s_val rfl rfl rfl rfl rfl (s_nil (t_normal (w_ret ?_)))
      exact ⟨_, rfl, rfl, rfl⟩
    | true =>
      refine s_val rfl rfl rfl rfl rfl ?_
      refine s_read rfl rfl rfl rfl (v := num e) (by simp only [Kind.ne, kLd, V.cells]; rw [hb]; rfl) ?_
      refine s_val rfl rfl rfl rfl (v := .bool (e == 0)) rfl ?_
      refine s_val rfl rfl rfl rfl rfl ?_
      refine s_val rfl rfl rfl rfl rfl (s_nil (t_normal (w_ret ?_)))
      exact ⟨_, rfl, rfl, rfl⟩

theorem c30 (a b c d e : Int) (H : Heap) : CallT Tryz.prog 30 [.agg [num a, num b, num c, num d, num e]] H fun v H' => v = .bool ((c == 0) && ((d == 0) && (e == 0))) ∧ H' = H.push (.cells 0 false [num a, num b, num c, num d, num e]) :=
  callT_fun hmO m30 (fine_acwp a b c d e H)

theorem c31 (H : Heap) : CallT Tryz.prog 31 [] H fun v H' => v = .bool true ∧ H' = H := callT_says o31 says31 H

theorem c6 (a b c d e : Int) (H : Heap) : CallT Tryz.prog 6 [.agg [num a, num b, num c, num d, num e]] H fun v _ => v = .bool true := by
  refine callT_fun hmO m6 ?_
  have hb : (H.push (.cells 0 false [num a, num b, num c, num d, num e])).blk H.next = .cells 0 false [num a, num b, num c, num d, num e] := by simp [Heap.push]
  have hb2 : ((H.push (.cells 0 false [num a, num b, num c, num d, num e])).push (.cells 0 false [num a, num b, num c, num d, num e])).blk H.next = .cells 0 false [num a, num b, num c, num d, num e] := by simp [Heap.push]
  refine w_seq (w_reg (s_new rfl rfl rfl rfl rfl ?_))
  refine s_val rfl rfl rfl rfl rfl (s_nil (t_normal (w_seq (w_reg ?_))))
  refine s_read rfl rfl rfl rfl (v := .agg [num a, num b, num c, num d, num e]) (by simp only [Kind.ne, kLd, V.cells, Heap.row]; rw [hb]; rfl) ?_
  refine s_val rfl rfl rfl rfl rfl ?_
  refine s_read rfl rfl rfl rfl (v := num c) (by simp only [Kind.ne, kLd, V.cells]; rw [hb]; rfl) ?_
  refine s_val rfl rfl rfl rfl (v := .bool (c == 0)) rfl ?_
  refine s_call rfl rfl ((c30 a b c d e _).mono ?_)
  rintro v H' ⟨rfl, rfl⟩
  refine ⟨?_, ?_⟩
  · intro p hp
    simp only [List.filter_cons, List.filter_nil] at hp
    simp at hp
    subst hp
    simp only [Kind.ne, kLd, V.cells]; rw [hb2]; rfl
  refine s_val rfl rfl rfl rfl rfl ?_
  cases hc : (c == 0) with
  | false =>
    refine s_skip rfl (s_skip rfl (s_skip rfl ?_))
    refine s_val rfl rfl rfl rfl rfl ?_
    refine s_val rfl rfl rfl rfl rfl ?_
    refine s_skip rfl (s_skip rfl (s_skip rfl ?_))
    refine s_val rfl rfl rfl rfl rfl ?_
    refine s_val rfl rfl rfl rfl (v := .bool true) rfl ?_
    refine s_val rfl rfl rfl rfl rfl ?_
    refine s_call0 rfl rfl ((c31 _).mono ?_)
    rintro v H' ⟨rfl, rfl⟩
    refine s_val rfl rfl rfl rfl rfl ?_
    refine s_val rfl rfl rfl rfl rfl (s_nil (t_normal (w_ret ?_)))
    exact ⟨_, rfl, rfl⟩
  | true =>
    refine s_val rfl rfl rfl rfl rfl ?_
    refine s_read rfl rfl rfl rfl (v := num d) (by simp only [Kind.ne, kLd, V.cells]; rw [hb2]; rfl) ?_
    refine s_val rfl rfl rfl rfl (v := .bool (d == 0)) rfl ?_
    refine s_val rfl rfl rfl rfl rfl ?_
    refine s_val rfl rfl rfl rfl rfl ?_
    cases hd : (d == 0) with
    | false =>
      refine s_skip rfl (s_skip rfl (s_skip rfl ?_))
      refine s_val rfl rfl rfl rfl rfl ?_
      refine s_val rfl rfl rfl rfl (v := .bool true) rfl ?_
      refine s_val rfl rfl rfl rfl rfl ?_
      refine s_call0 rfl rfl ((c31 _).mono ?_)
      rintro v H' ⟨rfl, rfl⟩
      refine s_val rfl rfl rfl rfl rfl ?_
      refine s_val rfl rfl rfl rfl rfl (s_nil (t_normal (w_ret ?_)))
      exact ⟨_, rfl, rfl⟩
    | true =>
      refine s_val rfl rfl rfl rfl rfl ?_
      refine s_read rfl rfl rfl rfl (v := num e) (by simp only [Kind.ne, kLd, V.cells]; rw [hb2]; rfl) ?_
      refine s_val rfl rfl rfl rfl (v := .bool (e == 0)) rfl ?_
      refine s_val rfl rfl rfl rfl rfl ?_
      refine s_val rfl rfl rfl rfl (v := .bool true) (by cases (e == 0) <;> rfl) ?_
      refine s_val rfl rfl rfl rfl rfl ?_
      refine s_call0 rfl rfl ((c31 _).mono ?_)
      rintro v H' ⟨rfl, rfl⟩
      refine s_val rfl rfl rfl rfl rfl ?_
      refine s_val rfl rfl rfl rfl rfl (s_nil (t_normal (w_ret ?_)))
      exact ⟨_, rfl, rfl⟩
end Go.Cn
