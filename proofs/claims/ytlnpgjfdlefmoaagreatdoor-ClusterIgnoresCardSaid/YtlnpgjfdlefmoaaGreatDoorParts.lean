/- concordbook.Within, from nought on. -/
import Derived.Test.YtlnpgjfdlefmoaaGreatDoorCold
import Derived.Test.YtlnpgjfdlefmoaaGreatDoorCnArgs2
namespace Go.Cn
set_option linter.unusedVariables false
set_option linter.unusedSimpArgs false

theorem wrap_id {x : Int} (h : -9223372036854775808 ≤ x) (h' : x < 9223372036854775808) : IntKind.i64.wrap x = x := by
  unfold IntKind.wrap
  simp [IntKind.bits, IntKind.signed]
  omega

theorem tmod_lt (n d : Int) (hd : 0 < d) : -d < n.tmod d ∧ n.tmod d < d := by
  have h1 := Int.tmod_lt_of_pos n hd
  have h2 := Int.lt_tmod_of_pos n hd
  exact ⟨h2, h1⟩

variable {P : Program} (C : CIP P)
include C

theorem c11 (n : Int) (h : Nat) (hh : h ≤ 1000) (H : Heap) : CallT P 11 [ni n, ni 0, ni h] H fun v H' => (∃ j : Nat, j ≤ h ∧ v = ni j) ∧ H' = H := by
  refine callT_fun C.hm C.m11 ?_
  unfold ac11
  have hb := tmod_lt n ((h : Int) + 1) (by omega)
  obtain ⟨r, hr⟩ : ∃ r, r = n.tmod ((h : Int) + 1) := ⟨_, rfl⟩
  rw [← hr] at hb
  have hw1 : IntKind.i64.wrap ((h : Int) - 0) = h := by rw [wrap_id] <;> omega
  have hw : IntKind.i64.wrap (IntKind.i64.wrap ((h : Int) - 0) + 1) = (h : Int) + 1 := by rw [hw1, wrap_id] <;> omega
  repeat (first
    | ((with_reducible refine is_cons ?_); first
      | refine s_flat rfl rfl rfl rfl rfl rfl ?_
      | refine s_read rfl rfl rfl rfl (by simp only [Kind.ne, kLd, Heap.row, V.cells]; rfl) ?_
      | refine s_skip rfl ?_)
    | with_reducible refine s_nil ?_
    | with_reducible refine t_normal ?_
    | with_reducible refine w_seq ?_
    | with_reducible refine w_reg ?_
    | with_reducible refine w_block ?_
    | with_reducible refine w_skip ?_
    | with_reducible refine b_normal ?_
    | ((with_reducible refine is_cond ?_); first
      | refine w_true rfl ?_
      | refine w_false rfl ?_)
    | with_reducible refine w_ret ?_
    | with_reducible refine t_ret ?_
    | with_reducible refine b_ret ?_
    | with_reducible refine w_exit ?_
    | with_reducible refine t_exit ?_
    | with_reducible refine b_here ?_
    | with_reducible refine b_on (by decide) ?_)
  refine s_val (vs := [ni n, ni (IntKind.i64.wrap (IntKind.i64.wrap ((h : Int) - 0) + 1))]) (v := ni r) rfl rfl rfl rfl (by
    rw [hw, hr]
    show (binV .rem (ni n) (ni ((h : Int) + 1))).map Eff.val = _
    show (if (h : Int) + 1 = 0 then none else some (V.int .i64 (n.tmod ((h : Int) + 1)))).map Eff.val = _
    rw [if_neg (by omega)]
    rfl) ?_
  repeat (first
    | ((with_reducible refine is_cons ?_); first
      | refine s_flat rfl rfl rfl rfl rfl rfl ?_
      | refine s_read rfl rfl rfl rfl (by simp only [Kind.ne, kLd, Heap.row, V.cells]; rfl) ?_
      | refine s_skip rfl ?_)
    | with_reducible refine s_nil ?_
    | with_reducible refine t_normal ?_
    | with_reducible refine w_seq ?_
    | with_reducible refine w_reg ?_
    | with_reducible refine w_block ?_
    | with_reducible refine w_skip ?_
    | with_reducible refine b_normal ?_
    | ((with_reducible refine is_cond ?_); first
      | refine w_true rfl ?_
      | refine w_false rfl ?_)
    | with_reducible refine w_ret ?_
    | with_reducible refine t_ret ?_
    | with_reducible refine b_ret ?_
    | with_reducible refine w_exit ?_
    | with_reducible refine t_exit ?_
    | with_reducible refine b_here ?_
    | with_reducible refine b_on (by decide) ?_)
  by_cases hneg : r < 0
  · have d1 : decide (r < 0) = true := decide_eq_true hneg
    refine s_val (v := .bool true) rfl rfl rfl rfl (by show some (Eff.val (V.bool (decide (r < 0)))) = _; rw [d1]) ?_
    repeat (first
      | ((with_reducible refine is_cons ?_); first
        | refine s_flat rfl rfl rfl rfl rfl rfl ?_
        | refine s_read rfl rfl rfl rfl (by simp only [Kind.ne, kLd, Heap.row, V.cells]; rfl) ?_
        | refine s_skip rfl ?_)
      | with_reducible refine s_nil ?_
      | with_reducible refine t_normal ?_
      | with_reducible refine w_seq ?_
      | with_reducible refine w_reg ?_
      | with_reducible refine w_block ?_
      | with_reducible refine w_skip ?_
      | with_reducible refine b_normal ?_
      | ((with_reducible refine is_cond ?_); first
        | refine w_true rfl ?_
        | refine w_false rfl ?_)
      | with_reducible refine w_ret ?_
      | with_reducible refine t_ret ?_
      | with_reducible refine b_ret ?_
      | with_reducible refine w_exit ?_
      | with_reducible refine t_exit ?_
      | with_reducible refine b_here ?_
      | with_reducible refine b_on (by decide) ?_)
    refine ⟨_, rfl, ⟨(r + h + 1).toNat, by omega, ?_⟩, rfl⟩
    show V.int .i64 (IntKind.i64.wrap (0 + IntKind.i64.wrap (IntKind.i64.wrap (IntKind.i64.wrap (r + h) - 0) + 1))) = ni _
    rw [wrap_id (x := r + h) (by omega) (by omega), wrap_id (x := r + h - 0) (by omega) (by omega), wrap_id (x := r + h - 0 + 1) (by omega) (by omega), wrap_id (by omega) (by omega)]
    unfold ni
    congr 1
    omega
  · have d1 : decide (r < 0) = false := decide_eq_false hneg
    refine s_val (v := .bool false) rfl rfl rfl rfl (by show some (Eff.val (V.bool (decide (r < 0)))) = _; rw [d1]) ?_
    repeat (first
      | ((with_reducible refine is_cons ?_); first
        | refine s_flat rfl rfl rfl rfl rfl rfl ?_
        | refine s_read rfl rfl rfl rfl (by simp only [Kind.ne, kLd, Heap.row, V.cells]; rfl) ?_
        | refine s_skip rfl ?_)
      | with_reducible refine s_nil ?_
      | with_reducible refine t_normal ?_
      | with_reducible refine w_seq ?_
      | with_reducible refine w_reg ?_
      | with_reducible refine w_block ?_
      | with_reducible refine w_skip ?_
      | with_reducible refine b_normal ?_
      | ((with_reducible refine is_cond ?_); first
        | refine w_true rfl ?_
        | refine w_false rfl ?_)
      | with_reducible refine w_ret ?_
      | with_reducible refine t_ret ?_
      | with_reducible refine b_ret ?_
      | with_reducible refine w_exit ?_
      | with_reducible refine t_exit ?_
      | with_reducible refine b_here ?_
      | with_reducible refine b_on (by decide) ?_)
    refine ⟨_, rfl, ⟨r.toNat, by omega, ?_⟩, rfl⟩
    show V.int .i64 (IntKind.i64.wrap (0 + r)) = ni _
    rw [wrap_id (by omega) (by omega)]
    unfold ni
    congr 1
    omega
end Go.Cn

/- ClusterIgnores, walked: the parts of a round. -/
namespace Go.Cn
set_option linter.unusedVariables false
set_option linter.unusedSimpArgs false

def shStep : List Shp := [.oi .i64, .oi .i64, .oi .i64, .oi .i64, .oi .i64, .oi .i64, .oi .i64, .os, .os, .os, .os, .osl]

theorem step_row {r : List V} (h : FitsA shStep r) : ∃ kd n cnt cl ck c2 c3 k1 k2 k3 k4 p len es, r = srow kd n cnt cl ck c2 c3 k1 k2 k3 k4 (.slice p len false es) := by
  obtain ⟨_, _, rfl, ⟨a1, rfl, _⟩, h1⟩ := h.cons
  obtain ⟨_, _, rfl, ⟨a2, rfl, _⟩, h2⟩ := h1.cons
  obtain ⟨_, _, rfl, ⟨a3, rfl, _⟩, h3⟩ := h2.cons
  obtain ⟨_, _, rfl, ⟨a4, rfl, _⟩, h4⟩ := h3.cons
  obtain ⟨_, _, rfl, ⟨a5, rfl, _⟩, h5⟩ := h4.cons
  obtain ⟨_, _, rfl, ⟨a6, rfl, _⟩, h6⟩ := h5.cons
  obtain ⟨_, _, rfl, ⟨a7, rfl, _⟩, h7⟩ := h6.cons
  obtain ⟨_, _, rfl, ⟨s1, rfl, _⟩, h8⟩ := h7.cons
  obtain ⟨_, _, rfl, ⟨s2, rfl, _⟩, h9⟩ := h8.cons
  obtain ⟨_, _, rfl, ⟨s3, rfl, _⟩, h10⟩ := h9.cons
  obtain ⟨_, _, rfl, ⟨s4, rfl, _⟩, h11⟩ := h10.cons
  obtain ⟨_, _, rfl, ⟨p, len, es, rfl, _⟩, h12⟩ := h11.cons
  obtain rfl := h12.nil
  exact ⟨_, _, _, _, _, _, _, _, _, _, _, _, _, _, rfl⟩

theorem lk_putS {e : Env} {d m t : Nat} {v : V} (hd : m ≤ d) (ht : t < m) : lk (putE e (some d) v) t = lk e t := by
  have : ¬ t = d := by omega
  simp only [putE, lk, if_neg this]

variable {P : Program} (C : CIP P)
include C

/-- The call of Do, of a step that is vain. -/
theorem part_do {Q : AEx → Env → Heap → Prop} {e : Env} {H : Heap} {k c nb sid : Nat} {kd n cnt cl ck c2 c3 : Int} {k1 k2 k3 k4 : List UInt8} {p : Option (Nat × Nat)} {len : Nat} {f : Bool} {es : Nat}
    (k5 : lk e 5 = some (.ptr (some (c, 0)))) (k8 : lk e 8 = some (.ptr (some (sid, 0)))) (hs : H.blk sid = .cells 0 false (srow kd n cnt cl ck c2 c3 k1 k2 k3 k4 (.slice p len f es))) (hI : Idle k c nb H) (hv : Vain k kd n cl)
    (hQ : ∀ e' H', (∀ t, t < 80 → lk e' t = lk e t) → Grow H H' → Q .normal e' H') : acwp P ac4d Q e H := by
  unfold ac4d
  refine w_seq (w_reg ?_)
  refine s_val rfl (vs := [.ptr (some (c, 0))]) (by simp only [evs, ev, k5]) rfl rfl rfl ?_
  refine s_read rfl (vs := [.ptr (some (sid, 0))]) (v := .agg (srow kd n cnt cl ck c2 c3 k1 k2 k3 k4 (.slice p len f es))) (by simp [evs, ev, lk, putE, k8]) rfl rfl (kLd_row (row_some (by decide) hs rfl rfl)) ?_
  refine s_call0 rfl rfl ((c21 C hI kd n cnt cl ck c2 c3 k1 k2 k3 k4 p len f es hv).mono ?_)
  rintro v H' ⟨rfl, g⟩
  repeat (first
    | ((with_reducible refine is_cons ?_); first
      | refine s_flat rfl rfl rfl rfl rfl rfl ?_
      | refine s_read rfl rfl rfl rfl (by simp only [Kind.ne, kLd, Heap.row, V.cells]; rfl) ?_
      | refine s_skip rfl ?_)
    | with_reducible refine s_nil ?_
    | with_reducible refine t_normal ?_
    | with_reducible refine w_seq ?_
    | with_reducible refine w_reg ?_
    | with_reducible refine w_block ?_
    | with_reducible refine w_skip ?_
    | with_reducible refine b_normal ?_
    | ((with_reducible refine is_cond ?_); first
      | refine w_true rfl ?_
      | refine w_false rfl ?_)
    | with_reducible refine w_ret ?_
    | with_reducible refine t_ret ?_
    | with_reducible refine b_ret ?_
    | with_reducible refine w_exit ?_
    | with_reducible refine t_exit ?_
    | with_reducible refine b_here ?_
    | with_reducible refine b_on (by decide) ?_)
  refine hQ _ _ (fun t ht => ?_) g
  have h1 : ¬ t = 89 := by omega
  have h2 : ¬ t = 88 := by omega
  have h3 : ¬ t = 87 := by omega
  simp [lk, putE, h1, h2, h3]

set_option maxHeartbeats 1000000 in
/-- The choice by kind: behind it the step is vain. -/
theorem part_switch {Q : AEx → Env → Heap → Prop} {e : Env} {H : Heap} {k c nb sid : Nat} {kd n cnt cl ck c2 c3 : Int} {k1 k2 k3 k4 : List UInt8} {p : Option (Nat × Nat)} {len : Nat} {f : Bool} {es : Nat}
    (k5 : lk e 5 = some (.ptr (some (c, 0)))) (k8 : lk e 8 = some (.ptr (some (sid, 0)))) (hs : H.blk sid = .cells 0 false (srow kd n cnt cl ck c2 c3 k1 k2 k3 k4 (.slice p len f es))) (hI : Idle k c nb H) (h0 : 0 < k) (hc : c ≠ sid) (hn : nb ≠ sid)
    (hQ : ∀ e' kd n cl, (∀ t, t < 40 → lk e' t = lk e t) → Vain k kd n cl → Q .normal e' (H.set sid (.cells 0 false (srow kd n cnt cl ck c2 c3 k1 k2 k3 k4 (.slice p len f es))))) : acwp P ac4s Q e H := by
  have hI' : ∀ B, Idle k c nb (H.set sid B) := fun B => by
    obtain ⟨a, ⟨v1, f1, e1, v3, v4, b⟩, ⟨xs, d, g⟩, l⟩ := hI
    exact ⟨a, ⟨v1, f1, e1, v3, v4, by rw [set_ne hc]; exact b⟩, ⟨xs, by rw [set_ne hn]; exact d, g⟩, l⟩
  have hself : H.set sid (.cells 0 false (srow kd n cnt cl ck c2 c3 k1 k2 k3 k4 (.slice p len f es))) = H := by
    cases H with
    | mk nx b =>
      unfold Heap.set
      congr 1
      funext j
      show (if j = sid then _ else b j) = b j
      by_cases hj : j = sid
      · rw [if_pos hj, hj]; exact hs.symm
      · rw [if_neg hj]
  unfold ac4s
  refine w_seq (w_reg ?_)
  refine s_val rfl (vs := [.ptr (some (sid, 0))]) (v := .ptr (some (sid, 0))) (by simp only [evs, ev, k8]) rfl rfl rfl ?_
  refine s_read rfl (vs := [.ptr (some (sid, 0))]) (v := ni kd) rfl rfl rfl (by simp only [Kind.ne, kLd, hs]; rfl) ?_
  repeat (first
    | ((with_reducible refine is_cons ?_); first
      | refine s_flat rfl rfl rfl rfl rfl rfl ?_
      | refine s_read rfl rfl rfl rfl (by simp only [Kind.ne, kLd, Heap.row, V.cells]; rfl) ?_
      | refine s_skip rfl ?_)
    | with_reducible refine s_nil ?_
    | with_reducible refine t_normal ?_
    | with_reducible refine w_seq ?_
    | with_reducible refine w_reg ?_
    | with_reducible refine w_block ?_
    | with_reducible refine w_skip ?_
    | with_reducible refine b_normal ?_
    | ((with_reducible refine is_cond ?_); first
      | refine w_true rfl ?_
      | refine w_false rfl ?_)
    | with_reducible refine w_ret ?_
    | with_reducible refine t_ret ?_
    | with_reducible refine b_ret ?_
    | with_reducible refine w_exit ?_
    | with_reducible refine t_exit ?_
    | with_reducible refine b_here ?_
    | with_reducible refine b_on (by decide) ?_)
  have k8' : ∀ x y z, lk ((x, y) :: z) 8 = if 8 = x then some y else lk z 8 := fun _ _ _ => rfl
  by_cases h1 : kd = 1
  · subst h1
    repeat (first
      | ((with_reducible refine is_cons ?_); first
        | refine s_val rfl rfl rfl rfl rfl ?_
        | refine s_read rfl rfl rfl rfl (by simp only [Kind.ne, kLd, Heap.row, V.cells]; rfl) ?_
        | refine s_skip rfl ?_)
      | with_reducible refine s_nil ?_
      | with_reducible refine t_normal ?_
      | with_reducible refine w_seq ?_
      | with_reducible refine w_reg ?_
      | with_reducible refine w_block ?_
      | with_reducible refine w_skip ?_
      | with_reducible refine b_normal ?_
      | ((with_reducible refine is_cond ?_); first
        | refine w_true rfl ?_
        | refine w_false rfl ?_)
      | with_reducible refine w_ret ?_
      | with_reducible refine t_ret ?_
      | with_reducible refine b_ret ?_
      | with_reducible refine w_exit ?_
      | with_reducible refine t_exit ?_
      | with_reducible refine b_here ?_
      | with_reducible refine b_on (by decide) ?_)
    refine s_val rfl (vs := [.ptr (some (sid, 0))]) (v := .ptr (some (sid, 3))) (by simp [evs, ev, lk, putE, k8]) rfl rfl rfl ?_
    refine s_read rfl rfl (v := ni cl) rfl rfl (by simp only [Kind.ne, kLd, hs]; rfl) ?_
    refine s_call0 rfl rfl ((c11 C cl 9 (by omega) H).mono ?_)
    rintro v H' ⟨⟨j, hj, rfl⟩, rfl⟩
    repeat (first
      | ((with_reducible refine is_cons ?_); first
        | refine s_val rfl rfl rfl rfl rfl ?_
        | refine s_read rfl rfl rfl rfl (by simp only [Kind.ne, kLd, Heap.row, V.cells]; rfl) ?_
        | refine s_skip rfl ?_)
      | with_reducible refine s_nil ?_
      | with_reducible refine t_normal ?_
      | with_reducible refine w_seq ?_
      | with_reducible refine w_reg ?_
      | with_reducible refine w_block ?_
      | with_reducible refine w_skip ?_
      | with_reducible refine b_normal ?_
      | ((with_reducible refine is_cond ?_); first
        | refine w_true rfl ?_
        | refine w_false rfl ?_)
      | with_reducible refine w_ret ?_
      | with_reducible refine t_ret ?_
      | with_reducible refine b_ret ?_
      | with_reducible refine w_exit ?_
      | with_reducible refine t_exit ?_
      | with_reducible refine b_here ?_
      | with_reducible refine b_on (by decide) ?_)
    refine s_val rfl (vs := [.ptr (some (sid, 0))]) (v := .ptr (some (sid, 3))) (by simp [evs, ev, lk, putE, k8]) rfl rfl rfl ?_
    refine s_ef0 rfl rfl rfl (ef_stc hs rfl rfl (by simp [srow, V.cells, ni])) ?_
    repeat (first
      | ((with_reducible refine is_cons ?_); first
        | refine s_val rfl rfl rfl rfl rfl ?_
        | refine s_read rfl rfl rfl rfl (by simp only [Kind.ne, kLd, Heap.row, V.cells]; rfl) ?_
        | refine s_skip rfl ?_)
      | with_reducible refine s_nil ?_
      | with_reducible refine t_normal ?_
      | with_reducible refine w_seq ?_
      | with_reducible refine w_reg ?_
      | with_reducible refine w_block ?_
      | with_reducible refine w_skip ?_
      | with_reducible refine b_normal ?_
      | ((with_reducible refine is_cond ?_); first
        | refine w_true rfl ?_
        | refine w_false rfl ?_)
      | with_reducible refine w_ret ?_
      | with_reducible refine t_ret ?_
      | with_reducible refine b_ret ?_
      | with_reducible refine w_exit ?_
      | with_reducible refine t_exit ?_
      | with_reducible refine b_here ?_
      | with_reducible refine b_on (by decide) ?_)
    exact hQ _ 1 n (IntKind.i64.wrap (0 - j)) (fun t ht => by repeat (first | refine (lk_putS (by decide) ht).trans ?_ | rfl)) (.inl ⟨rfl, by rw [wrap_id] <;> omega⟩)
  by_cases h5 : kd = 5 ∨ kd = 7 ∨ kd = 8
  · have key : ∀ (e' : Env), (∀ t, t < 45 → lk e' t = lk e t) → (∀ j : Nat, j ≤ 9 → ∀ e'' : Env, (∀ t, t < 40 → lk e'' t = lk e t) → Q .normal e'' (H.set sid (.cells 0 false (srow kd (IntKind.i64.wrap (k + j)) cnt cl ck c2 c3 k1 k2 k3 k4 (.slice p len f es))))) := by
      intro e' _ j hj e'' he
      refine hQ e'' kd _ cl he (.inr (.inr (.inr (.inr (.inl ⟨h5, ?_⟩)))))
      have := hI.pos
      rw [wrap_id] <;> omega
    rcases h5 with rfl | rfl | rfl
    all_goals
      repeat (first
        | ((with_reducible refine is_cons ?_); first
          | refine s_val rfl rfl rfl rfl rfl ?_
          | refine s_read rfl rfl rfl rfl (by simp only [Kind.ne, kLd, Heap.row, V.cells]; rfl) ?_
          | refine s_skip rfl ?_)
        | with_reducible refine s_nil ?_
        | with_reducible refine t_normal ?_
        | with_reducible refine w_seq ?_
        | with_reducible refine w_reg ?_
        | with_reducible refine w_block ?_
        | with_reducible refine w_skip ?_
        | with_reducible refine b_normal ?_
        | ((with_reducible refine is_cond ?_); first
          | refine w_true rfl ?_
          | refine w_false rfl ?_)
        | with_reducible refine w_ret ?_
        | with_reducible refine t_ret ?_
        | with_reducible refine b_ret ?_
        | with_reducible refine w_exit ?_
        | with_reducible refine t_exit ?_
        | with_reducible refine b_here ?_
        | with_reducible refine b_on (by decide) ?_)
      refine s_val rfl (vs := [.ptr (some (c, 0))]) (v := .ptr (some (c, 0))) (by simp [evs, ev, lk, putE, k5]) rfl rfl rfl ?_
      refine s_val rfl (vs := [.ptr (some (sid, 0))]) (v := .ptr (some (sid, 1))) (by simp [evs, ev, lk, putE, k8]) rfl rfl rfl ?_
      have hrd : (Kind.ld none).ne H [.ptr (some (sid, 1))] = some (.val (ni n)) := by simp only [Kind.ne, kLd, hs]; rfl
      refine s_read rfl rfl (v := ni n) rfl rfl hrd ?_
      refine s_call rfl rfl ((c20 C hI).mono ?_)
      rintro v H' ⟨rfl, rfl⟩
      refine ⟨?_, ?_⟩
      · intro p hp
        simp only [List.filter_cons, List.filter_nil] at hp
        simp at hp
        subst hp
        exact hrd
      refine s_call0 rfl rfl ((c11 C n 9 (by omega) H').mono ?_)
      rintro v H' ⟨⟨j, hj, rfl⟩, rfl⟩
      repeat (first
        | ((with_reducible refine is_cons ?_); first
          | refine s_val rfl rfl rfl rfl rfl ?_
          | refine s_read rfl rfl rfl rfl (by simp only [Kind.ne, kLd, Heap.row, V.cells]; rfl) ?_
          | refine s_skip rfl ?_)
        | with_reducible refine s_nil ?_
        | with_reducible refine t_normal ?_
        | with_reducible refine w_seq ?_
        | with_reducible refine w_reg ?_
        | with_reducible refine w_block ?_
        | with_reducible refine w_skip ?_
        | with_reducible refine b_normal ?_
        | ((with_reducible refine is_cond ?_); first
          | refine w_true rfl ?_
          | refine w_false rfl ?_)
        | with_reducible refine w_ret ?_
        | with_reducible refine t_ret ?_
        | with_reducible refine b_ret ?_
        | with_reducible refine w_exit ?_
        | with_reducible refine t_exit ?_
        | with_reducible refine b_here ?_
        | with_reducible refine b_on (by decide) ?_)
      refine s_val rfl (vs := [.ptr (some (sid, 0))]) (v := .ptr (some (sid, 1))) (by simp [evs, ev, lk, putE, k8]) rfl rfl rfl ?_
      refine s_ef0 rfl rfl rfl (ef_stc hs rfl rfl (by simp [srow, V.cells, ni])) ?_
      repeat (first
        | ((with_reducible refine is_cons ?_); first
          | refine s_val rfl rfl rfl rfl rfl ?_
          | refine s_read rfl rfl rfl rfl (by simp only [Kind.ne, kLd, Heap.row, V.cells]; rfl) ?_
          | refine s_skip rfl ?_)
        | with_reducible refine s_nil ?_
        | with_reducible refine t_normal ?_
        | with_reducible refine w_seq ?_
        | with_reducible refine w_reg ?_
        | with_reducible refine w_block ?_
        | with_reducible refine w_skip ?_
        | with_reducible refine b_normal ?_
        | ((with_reducible refine is_cond ?_); first
          | refine w_true rfl ?_
          | refine w_false rfl ?_)
        | with_reducible refine w_ret ?_
        | with_reducible refine t_ret ?_
        | with_reducible refine b_ret ?_
        | with_reducible refine w_exit ?_
        | with_reducible refine t_exit ?_
        | with_reducible refine b_here ?_
        | with_reducible refine b_on (by decide) ?_)
      exact key e (fun _ _ => rfl) j hj _ (fun t ht => by repeat (first | refine (lk_putS (by decide) ht).trans ?_ | rfl))
  by_cases h9 : kd = 9
  · subst h9
    repeat (first
      | ((with_reducible refine is_cons ?_); first
        | refine s_val rfl rfl rfl rfl rfl ?_
        | refine s_read rfl rfl rfl rfl (by simp only [Kind.ne, kLd, Heap.row, V.cells]; rfl) ?_
        | refine s_skip rfl ?_)
      | with_reducible refine s_nil ?_
      | with_reducible refine t_normal ?_
      | with_reducible refine w_seq ?_
      | with_reducible refine w_reg ?_
      | with_reducible refine w_block ?_
      | with_reducible refine w_skip ?_
      | with_reducible refine b_normal ?_
      | ((with_reducible refine is_cond ?_); first
        | refine w_true rfl ?_
        | refine w_false rfl ?_)
      | with_reducible refine w_ret ?_
      | with_reducible refine t_ret ?_
      | with_reducible refine b_ret ?_
      | with_reducible refine w_exit ?_
      | with_reducible refine t_exit ?_
      | with_reducible refine b_here ?_
      | with_reducible refine b_on (by decide) ?_)
    refine s_val rfl (vs := [.ptr (some (sid, 0))]) (v := .ptr (some (sid, 1))) (by simp [evs, ev, lk, putE, k8]) rfl rfl rfl ?_
    have hrd : (Kind.ld none).ne H [.ptr (some (sid, 1))] = some (.val (ni n)) := by simp only [Kind.ne, kLd, hs]; rfl
    refine s_read rfl rfl (v := ni n) rfl rfl hrd ?_
    refine s_val rfl (vs := [.ptr (some (c, 0))]) (v := .ptr (some (c, 0))) (by simp [evs, ev, lk, putE, k5]) rfl rfl rfl ?_
    refine s_call rfl rfl ((c20 C hI).mono ?_)
    rintro v H' ⟨rfl, rfl⟩
    refine ⟨?_, ?_⟩
    · intro p hp
      simp only [List.filter_cons, List.filter_nil] at hp
      simp at hp
      subst hp
      exact hrd
    have hp := hI.pos
    have hk1 : IntKind.i64.wrap ((k : Int) - 1) = ((k - 1 : Nat) : Int) := by rw [wrap_id] <;> omega
    refine s_val rfl rfl rfl rfl (v := ni ((k - 1 : Nat) : Int)) (by rw [← hk1]; rfl) ?_
    refine s_call0 rfl rfl ((c11 C n (k - 1) (by omega) H').mono ?_)
    rintro v H' ⟨⟨j, hj, rfl⟩, rfl⟩
    repeat (first
      | ((with_reducible refine is_cons ?_); first
        | refine s_val rfl rfl rfl rfl rfl ?_
        | refine s_read rfl rfl rfl rfl (by simp only [Kind.ne, kLd, Heap.row, V.cells]; rfl) ?_
        | refine s_skip rfl ?_)
      | with_reducible refine s_nil ?_
      | with_reducible refine t_normal ?_
      | with_reducible refine w_seq ?_
      | with_reducible refine w_reg ?_
      | with_reducible refine w_block ?_
      | with_reducible refine w_skip ?_
      | with_reducible refine b_normal ?_
      | ((with_reducible refine is_cond ?_); first
        | refine w_true rfl ?_
        | refine w_false rfl ?_)
      | with_reducible refine w_ret ?_
      | with_reducible refine t_ret ?_
      | with_reducible refine b_ret ?_
      | with_reducible refine w_exit ?_
      | with_reducible refine t_exit ?_
      | with_reducible refine b_here ?_
      | with_reducible refine b_on (by decide) ?_)
    refine s_val rfl (vs := [.ptr (some (sid, 0))]) (v := .ptr (some (sid, 1))) (by simp [evs, ev, lk, putE, k8]) rfl rfl rfl ?_
    refine s_ef0 rfl rfl rfl (ef_stc hs rfl rfl (by simp [srow, V.cells, ni])) ?_
    repeat (first
      | ((with_reducible refine is_cons ?_); first
        | refine s_val rfl rfl rfl rfl rfl ?_
        | refine s_read rfl rfl rfl rfl (by simp only [Kind.ne, kLd, Heap.row, V.cells]; rfl) ?_
        | refine s_skip rfl ?_)
      | with_reducible refine s_nil ?_
      | with_reducible refine t_normal ?_
      | with_reducible refine w_seq ?_
      | with_reducible refine w_reg ?_
      | with_reducible refine w_block ?_
      | with_reducible refine w_skip ?_
      | with_reducible refine b_normal ?_
      | ((with_reducible refine is_cond ?_); first
        | refine w_true rfl ?_
        | refine w_false rfl ?_)
      | with_reducible refine w_ret ?_
      | with_reducible refine t_ret ?_
      | with_reducible refine b_ret ?_
      | with_reducible refine w_exit ?_
      | with_reducible refine t_exit ?_
      | with_reducible refine b_here ?_
      | with_reducible refine b_on (by decide) ?_)
    exact hQ _ 9 j cl (fun t ht => by repeat (first | refine (lk_putS (by decide) ht).trans ?_ | rfl)) (.inr (.inr (.inr (.inl ⟨rfl, by omega, by omega⟩))))
  by_cases h6 : kd = 6
  · subst h6
    repeat (first
      | ((with_reducible refine is_cons ?_); first
        | refine s_val rfl rfl rfl rfl rfl ?_
        | refine s_read rfl rfl rfl rfl (by simp only [Kind.ne, kLd, Heap.row, V.cells]; rfl) ?_
        | refine s_skip rfl ?_)
      | with_reducible refine s_nil ?_
      | with_reducible refine t_normal ?_
      | with_reducible refine w_seq ?_
      | with_reducible refine w_reg ?_
      | with_reducible refine w_block ?_
      | with_reducible refine w_skip ?_
      | with_reducible refine b_normal ?_
      | ((with_reducible refine is_cond ?_); first
        | refine w_true rfl ?_
        | refine w_false rfl ?_)
      | with_reducible refine w_ret ?_
      | with_reducible refine t_ret ?_
      | with_reducible refine b_ret ?_
      | with_reducible refine w_exit ?_
      | with_reducible refine t_exit ?_
      | with_reducible refine b_here ?_
      | with_reducible refine b_on (by decide) ?_)
    refine s_val rfl (vs := [.ptr (some (sid, 0))]) (v := .ptr (some (sid, 1))) (by simp [evs, ev, lk, putE, k8]) rfl rfl rfl ?_
    refine s_read rfl rfl (v := ni n) rfl rfl (by simp only [Kind.ne, kLd, hs]; rfl) ?_
    refine s_call0 rfl rfl ((c11 C n 9 (by omega) H).mono ?_)
    rintro v H' ⟨⟨j, hj, rfl⟩, rfl⟩
    repeat (first
      | ((with_reducible refine is_cons ?_); first
        | refine s_val rfl rfl rfl rfl rfl ?_
        | refine s_read rfl rfl rfl rfl (by simp only [Kind.ne, kLd, Heap.row, V.cells]; rfl) ?_
        | refine s_skip rfl ?_)
      | with_reducible refine s_nil ?_
      | with_reducible refine t_normal ?_
      | with_reducible refine w_seq ?_
      | with_reducible refine w_reg ?_
      | with_reducible refine w_block ?_
      | with_reducible refine w_skip ?_
      | with_reducible refine b_normal ?_
      | ((with_reducible refine is_cond ?_); first
        | refine w_true rfl ?_
        | refine w_false rfl ?_)
      | with_reducible refine w_ret ?_
      | with_reducible refine t_ret ?_
      | with_reducible refine b_ret ?_
      | with_reducible refine w_exit ?_
      | with_reducible refine t_exit ?_
      | with_reducible refine b_here ?_
      | with_reducible refine b_on (by decide) ?_)
    refine s_val rfl (vs := [.ptr (some (sid, 0))]) (v := .ptr (some (sid, 1))) (by simp [evs, ev, lk, putE, k8]) rfl rfl rfl ?_
    refine s_ef0 rfl rfl rfl (ef_stc hs rfl rfl (by simp [srow, V.cells, ni])) ?_
    repeat (first
      | ((with_reducible refine is_cons ?_); first
        | refine s_val rfl rfl rfl rfl rfl ?_
        | refine s_read rfl rfl rfl rfl (by simp only [Kind.ne, kLd, Heap.row, V.cells]; rfl) ?_
        | refine s_skip rfl ?_)
      | with_reducible refine s_nil ?_
      | with_reducible refine t_normal ?_
      | with_reducible refine w_seq ?_
      | with_reducible refine w_reg ?_
      | with_reducible refine w_block ?_
      | with_reducible refine w_skip ?_
      | with_reducible refine b_normal ?_
      | ((with_reducible refine is_cond ?_); first
        | refine w_true rfl ?_
        | refine w_false rfl ?_)
      | with_reducible refine w_ret ?_
      | with_reducible refine t_ret ?_
      | with_reducible refine b_ret ?_
      | with_reducible refine w_exit ?_
      | with_reducible refine t_exit ?_
      | with_reducible refine b_here ?_
      | with_reducible refine b_on (by decide) ?_)
    exact hQ _ 6 (IntKind.i64.wrap (0 - j)) cl (fun t ht => by repeat (first | refine (lk_putS (by decide) ht).trans ?_ | rfl)) (.inr (.inr (.inl ⟨rfl, by rw [wrap_id] <;> omega⟩)))
  by_cases h2 : kd = 2 ∨ kd = 3 ∨ kd = 4
  · have key : ∀ j : Nat, ∀ e'' : Env, (∀ t, t < 40 → lk e'' t = lk e t) → Q .normal e'' (H.set sid (.cells 0 false (srow kd j cnt cl ck c2 c3 k1 k2 k3 k4 (.slice p len f es)))) := fun j e'' he => hQ e'' kd _ cl he (.inr (.inl ⟨h2, by omega⟩))
    rcases h2 with rfl | rfl | rfl
    all_goals
      repeat (first
        | ((with_reducible refine is_cons ?_); first
          | refine s_val rfl rfl rfl rfl rfl ?_
          | refine s_read rfl rfl rfl rfl (by simp only [Kind.ne, kLd, Heap.row, V.cells]; rfl) ?_
          | refine s_skip rfl ?_)
        | with_reducible refine s_nil ?_
        | with_reducible refine t_normal ?_
        | with_reducible refine w_seq ?_
        | with_reducible refine w_reg ?_
        | with_reducible refine w_block ?_
        | with_reducible refine w_skip ?_
        | with_reducible refine b_normal ?_
        | ((with_reducible refine is_cond ?_); first
          | refine w_true rfl ?_
          | refine w_false rfl ?_)
        | with_reducible refine w_ret ?_
        | with_reducible refine t_ret ?_
        | with_reducible refine b_ret ?_
        | with_reducible refine w_exit ?_
        | with_reducible refine t_exit ?_
        | with_reducible refine b_here ?_
        | with_reducible refine b_on (by decide) ?_)
      refine s_val rfl (vs := [.ptr (some (sid, 0))]) (v := .ptr (some (sid, 1))) (by simp [evs, ev, lk, putE, k8]) rfl rfl rfl ?_
      refine s_read rfl rfl (v := ni n) rfl rfl (by simp only [Kind.ne, kLd, hs]; rfl) ?_
      refine s_call0 rfl rfl ((c11 C n 9 (by omega) H).mono ?_)
      rintro v H' ⟨⟨j, hj, rfl⟩, rfl⟩
      repeat (first
        | ((with_reducible refine is_cons ?_); first
          | refine s_val rfl rfl rfl rfl rfl ?_
          | refine s_read rfl rfl rfl rfl (by simp only [Kind.ne, kLd, Heap.row, V.cells]; rfl) ?_
          | refine s_skip rfl ?_)
        | with_reducible refine s_nil ?_
        | with_reducible refine t_normal ?_
        | with_reducible refine w_seq ?_
        | with_reducible refine w_reg ?_
        | with_reducible refine w_block ?_
        | with_reducible refine w_skip ?_
        | with_reducible refine b_normal ?_
        | ((with_reducible refine is_cond ?_); first
          | refine w_true rfl ?_
          | refine w_false rfl ?_)
        | with_reducible refine w_ret ?_
        | with_reducible refine t_ret ?_
        | with_reducible refine b_ret ?_
        | with_reducible refine w_exit ?_
        | with_reducible refine t_exit ?_
        | with_reducible refine b_here ?_
        | with_reducible refine b_on (by decide) ?_)
      refine s_val rfl (vs := [.ptr (some (sid, 0))]) (v := .ptr (some (sid, 1))) (by simp [evs, ev, lk, putE, k8]) rfl rfl rfl ?_
      refine s_ef0 rfl rfl rfl (ef_stc hs rfl rfl (by simp [srow, V.cells, ni])) ?_
      repeat (first
        | ((with_reducible refine is_cons ?_); first
          | refine s_val rfl rfl rfl rfl rfl ?_
          | refine s_read rfl rfl rfl rfl (by simp only [Kind.ne, kLd, Heap.row, V.cells]; rfl) ?_
          | refine s_skip rfl ?_)
        | with_reducible refine s_nil ?_
        | with_reducible refine t_normal ?_
        | with_reducible refine w_seq ?_
        | with_reducible refine w_reg ?_
        | with_reducible refine w_block ?_
        | with_reducible refine w_skip ?_
        | with_reducible refine b_normal ?_
        | ((with_reducible refine is_cond ?_); first
          | refine w_true rfl ?_
          | refine w_false rfl ?_)
        | with_reducible refine w_ret ?_
        | with_reducible refine t_ret ?_
        | with_reducible refine b_ret ?_
        | with_reducible refine w_exit ?_
        | with_reducible refine t_exit ?_
        | with_reducible refine b_here ?_
        | with_reducible refine b_on (by decide) ?_)
      exact key j _ (fun t ht => by repeat (first | refine (lk_putS (by decide) ht).trans ?_ | rfl))
  · have e : ∀ j : Int, 1 ≤ j → j ≤ 9 → (kd == j) = false := fun j h1 h2 => beq_eq_false_iff_ne.2 (by omega)
    have e1 := e 1 (by omega) (by omega)
    have e2 := e 2 (by omega) (by omega)
    have e3 := e 3 (by omega) (by omega)
    have e4 := e 4 (by omega) (by omega)
    have e5 := e 5 (by omega) (by omega)
    have e6 := e 6 (by omega) (by omega)
    have e7 := e 7 (by omega) (by omega)
    have e8 := e 8 (by omega) (by omega)
    have e9 := e 9 (by omega) (by omega)
    refine s_val (v := .bool false) rfl rfl rfl rfl (by show some (Eff.val (V.bool (kd == 1))) = _; rw [e1]) ?_
    repeat (first
      | ((with_reducible refine is_cons ?_); first
        | refine s_flat rfl rfl rfl rfl rfl rfl ?_
        | refine s_read rfl rfl rfl rfl (by simp only [Kind.ne, kLd, Heap.row, V.cells]; rfl) ?_
        | refine s_skip rfl ?_)
      | with_reducible refine s_nil ?_
      | with_reducible refine t_normal ?_
      | with_reducible refine w_seq ?_
      | with_reducible refine w_reg ?_
      | with_reducible refine w_block ?_
      | with_reducible refine w_skip ?_
      | with_reducible refine b_normal ?_
      | ((with_reducible refine is_cond ?_); first
        | refine w_true rfl ?_
        | refine w_false rfl ?_)
      | with_reducible refine w_ret ?_
      | with_reducible refine t_ret ?_
      | with_reducible refine b_ret ?_
      | with_reducible refine w_exit ?_
      | with_reducible refine t_exit ?_
      | with_reducible refine b_here ?_
      | with_reducible refine b_on (by decide) ?_)
    refine s_val (v := .bool false) rfl rfl rfl rfl (by show some (Eff.val (V.bool (kd == 5))) = _; rw [e5]) ?_
    repeat (first
      | ((with_reducible refine is_cons ?_); first
        | refine s_flat rfl rfl rfl rfl rfl rfl ?_
        | refine s_read rfl rfl rfl rfl (by simp only [Kind.ne, kLd, Heap.row, V.cells]; rfl) ?_
        | refine s_skip rfl ?_)
      | with_reducible refine s_nil ?_
      | with_reducible refine t_normal ?_
      | with_reducible refine w_seq ?_
      | with_reducible refine w_reg ?_
      | with_reducible refine w_block ?_
      | with_reducible refine w_skip ?_
      | with_reducible refine b_normal ?_
      | ((with_reducible refine is_cond ?_); first
        | refine w_true rfl ?_
        | refine w_false rfl ?_)
      | with_reducible refine w_ret ?_
      | with_reducible refine t_ret ?_
      | with_reducible refine b_ret ?_
      | with_reducible refine w_exit ?_
      | with_reducible refine t_exit ?_
      | with_reducible refine b_here ?_
      | with_reducible refine b_on (by decide) ?_)
    refine s_val (v := .bool false) rfl rfl rfl rfl (by show some (Eff.val (V.bool (kd == 7))) = _; rw [e7]) ?_
    repeat (first
      | ((with_reducible refine is_cons ?_); first
        | refine s_flat rfl rfl rfl rfl rfl rfl ?_
        | refine s_read rfl rfl rfl rfl (by simp only [Kind.ne, kLd, Heap.row, V.cells]; rfl) ?_
        | refine s_skip rfl ?_)
      | with_reducible refine s_nil ?_
      | with_reducible refine t_normal ?_
      | with_reducible refine w_seq ?_
      | with_reducible refine w_reg ?_
      | with_reducible refine w_block ?_
      | with_reducible refine w_skip ?_
      | with_reducible refine b_normal ?_
      | ((with_reducible refine is_cond ?_); first
        | refine w_true rfl ?_
        | refine w_false rfl ?_)
      | with_reducible refine w_ret ?_
      | with_reducible refine t_ret ?_
      | with_reducible refine b_ret ?_
      | with_reducible refine w_exit ?_
      | with_reducible refine t_exit ?_
      | with_reducible refine b_here ?_
      | with_reducible refine b_on (by decide) ?_)
    refine s_val (v := .bool false) rfl rfl rfl rfl (by show some (Eff.val (V.bool (kd == 8))) = _; rw [e8]) ?_
    repeat (first
      | ((with_reducible refine is_cons ?_); first
        | refine s_flat rfl rfl rfl rfl rfl rfl ?_
        | refine s_read rfl rfl rfl rfl (by simp only [Kind.ne, kLd, Heap.row, V.cells]; rfl) ?_
        | refine s_skip rfl ?_)
      | with_reducible refine s_nil ?_
      | with_reducible refine t_normal ?_
      | with_reducible refine w_seq ?_
      | with_reducible refine w_reg ?_
      | with_reducible refine w_block ?_
      | with_reducible refine w_skip ?_
      | with_reducible refine b_normal ?_
      | ((with_reducible refine is_cond ?_); first
        | refine w_true rfl ?_
        | refine w_false rfl ?_)
      | with_reducible refine w_ret ?_
      | with_reducible refine t_ret ?_
      | with_reducible refine b_ret ?_
      | with_reducible refine w_exit ?_
      | with_reducible refine t_exit ?_
      | with_reducible refine b_here ?_
      | with_reducible refine b_on (by decide) ?_)
    refine s_val (v := .bool false) rfl rfl rfl rfl (by show some (Eff.val (V.bool (kd == 9))) = _; rw [e9]) ?_
    repeat (first
      | ((with_reducible refine is_cons ?_); first
        | refine s_flat rfl rfl rfl rfl rfl rfl ?_
        | refine s_read rfl rfl rfl rfl (by simp only [Kind.ne, kLd, Heap.row, V.cells]; rfl) ?_
        | refine s_skip rfl ?_)
      | with_reducible refine s_nil ?_
      | with_reducible refine t_normal ?_
      | with_reducible refine w_seq ?_
      | with_reducible refine w_reg ?_
      | with_reducible refine w_block ?_
      | with_reducible refine w_skip ?_
      | with_reducible refine b_normal ?_
      | ((with_reducible refine is_cond ?_); first
        | refine w_true rfl ?_
        | refine w_false rfl ?_)
      | with_reducible refine w_ret ?_
      | with_reducible refine t_ret ?_
      | with_reducible refine b_ret ?_
      | with_reducible refine w_exit ?_
      | with_reducible refine t_exit ?_
      | with_reducible refine b_here ?_
      | with_reducible refine b_on (by decide) ?_)
    refine s_val (v := .bool false) rfl rfl rfl rfl (by show some (Eff.val (V.bool (kd == 6))) = _; rw [e6]) ?_
    repeat (first
      | ((with_reducible refine is_cons ?_); first
        | refine s_flat rfl rfl rfl rfl rfl rfl ?_
        | refine s_read rfl rfl rfl rfl (by simp only [Kind.ne, kLd, Heap.row, V.cells]; rfl) ?_
        | refine s_skip rfl ?_)
      | with_reducible refine s_nil ?_
      | with_reducible refine t_normal ?_
      | with_reducible refine w_seq ?_
      | with_reducible refine w_reg ?_
      | with_reducible refine w_block ?_
      | with_reducible refine w_skip ?_
      | with_reducible refine b_normal ?_
      | ((with_reducible refine is_cond ?_); first
        | refine w_true rfl ?_
        | refine w_false rfl ?_)
      | with_reducible refine w_ret ?_
      | with_reducible refine t_ret ?_
      | with_reducible refine b_ret ?_
      | with_reducible refine w_exit ?_
      | with_reducible refine t_exit ?_
      | with_reducible refine b_here ?_
      | with_reducible refine b_on (by decide) ?_)
    refine s_val (v := .bool false) rfl rfl rfl rfl (by show some (Eff.val (V.bool (kd == 2))) = _; rw [e2]) ?_
    repeat (first
      | ((with_reducible refine is_cons ?_); first
        | refine s_flat rfl rfl rfl rfl rfl rfl ?_
        | refine s_read rfl rfl rfl rfl (by simp only [Kind.ne, kLd, Heap.row, V.cells]; rfl) ?_
        | refine s_skip rfl ?_)
      | with_reducible refine s_nil ?_
      | with_reducible refine t_normal ?_
      | with_reducible refine w_seq ?_
      | with_reducible refine w_reg ?_
      | with_reducible refine w_block ?_
      | with_reducible refine w_skip ?_
      | with_reducible refine b_normal ?_
      | ((with_reducible refine is_cond ?_); first
        | refine w_true rfl ?_
        | refine w_false rfl ?_)
      | with_reducible refine w_ret ?_
      | with_reducible refine t_ret ?_
      | with_reducible refine b_ret ?_
      | with_reducible refine w_exit ?_
      | with_reducible refine t_exit ?_
      | with_reducible refine b_here ?_
      | with_reducible refine b_on (by decide) ?_)
    refine s_val (v := .bool false) rfl rfl rfl rfl (by show some (Eff.val (V.bool (kd == 3))) = _; rw [e3]) ?_
    repeat (first
      | ((with_reducible refine is_cons ?_); first
        | refine s_flat rfl rfl rfl rfl rfl rfl ?_
        | refine s_read rfl rfl rfl rfl (by simp only [Kind.ne, kLd, Heap.row, V.cells]; rfl) ?_
        | refine s_skip rfl ?_)
      | with_reducible refine s_nil ?_
      | with_reducible refine t_normal ?_
      | with_reducible refine w_seq ?_
      | with_reducible refine w_reg ?_
      | with_reducible refine w_block ?_
      | with_reducible refine w_skip ?_
      | with_reducible refine b_normal ?_
      | ((with_reducible refine is_cond ?_); first
        | refine w_true rfl ?_
        | refine w_false rfl ?_)
      | with_reducible refine w_ret ?_
      | with_reducible refine t_ret ?_
      | with_reducible refine b_ret ?_
      | with_reducible refine w_exit ?_
      | with_reducible refine t_exit ?_
      | with_reducible refine b_here ?_
      | with_reducible refine b_on (by decide) ?_)
    refine s_val (v := .bool false) rfl rfl rfl rfl (by show some (Eff.val (V.bool (kd == 4))) = _; rw [e4]) ?_
    repeat (first
      | ((with_reducible refine is_cons ?_); first
        | refine s_flat rfl rfl rfl rfl rfl rfl ?_
        | refine s_read rfl rfl rfl rfl (by simp only [Kind.ne, kLd, Heap.row, V.cells]; rfl) ?_
        | refine s_skip rfl ?_)
      | with_reducible refine s_nil ?_
      | with_reducible refine t_normal ?_
      | with_reducible refine w_seq ?_
      | with_reducible refine w_reg ?_
      | with_reducible refine w_block ?_
      | with_reducible refine w_skip ?_
      | with_reducible refine b_normal ?_
      | ((with_reducible refine is_cond ?_); first
        | refine w_true rfl ?_
        | refine w_false rfl ?_)
      | with_reducible refine w_ret ?_
      | with_reducible refine t_ret ?_
      | with_reducible refine b_ret ?_
      | with_reducible refine w_exit ?_
      | with_reducible refine t_exit ?_
      | with_reducible refine b_here ?_
      | with_reducible refine b_on (by decide) ?_)
    rw [← hself]
    exact hQ _ kd n cl (fun t ht => by repeat (first | refine (lk_putS (by decide) ht).trans ?_ | rfl)) (.inr (.inr (.inr (.inr (.inr (by omega))))))
end Go.Cn
