/- Steps that do not apply change nothing: letters, times, starts. -/
import Derived.Test.YtlnpgjfdlefmoaaGreatDoorIdle
namespace Go.Cn
set_option linter.unusedVariables false
set_option linter.unusedSimpArgs false

variable {P : Program} (C : CIP P)
include C

theorem c62 {k c nb : Nat} {H : Heap} (h : Idle k c nb H) (kd n cnt cl ck c2 c3 : Int) (k1 k2 k3 k4 : List UInt8) (p : Option (Nat × Nat)) (len : Nat) (f : Bool) (es : Nat) (hn : 0 ≤ n) :
    CallT P 62 [.ptr (some (c, 0)), .agg (srow kd n cnt cl ck c2 c3 k1 k2 k3 k4 (.slice p len f es))] H fun v H' => v = .bool false ∧ Grow H H' := by
  obtain ⟨h0, ⟨v1, f1, e1, v3, v4, h1⟩, _, hlt, _⟩ := h
  refine callT_fun C.hm C.m62 ?_
  unfold ac62
  have hb := push_new H (.cells 0 false (srow kd n cnt cl ck c2 c3 k1 k2 k3 k4 (.slice p len f es)))
  have hc := (push_old (B := .cells 0 false (srow kd n cnt cl ck c2 c3 k1 k2 k3 k4 (.slice p len f es))) hlt).trans h1
  refine w_seq (w_reg (s_new rfl rfl rfl rfl rfl ?_))
  have d1 : decide (n < 0) = false := decide_eq_false (by omega)
  have d2 : decide (n ≥ ((0 : Nat) : Int)) = true := decide_eq_true (by omega)
  repeat (first
    | ((with_reducible refine is_cons ?_); first
      | refine s_flat rfl rfl rfl rfl rfl rfl ?_
      | refine s_read rfl rfl rfl rfl (by simp only [Kind.ne, kLd, Heap.row, V.cells, hb]; rfl) ?_
      | refine s_skip rfl ?_)
    | with_reducible refine s_nil ?_
    | with_reducible refine t_normal ?_
    | with_reducible refine w_seq ?_
    | with_reducible refine w_reg ?_
    | with_reducible refine w_block ?_
    | with_reducible refine w_skip ?_
    | with_reducible refine b_normal ?_
    | ((with_reducible refine is_cond ?_); first
      | refine w_true rfl ?_
      | refine w_false rfl ?_)
    | with_reducible refine w_ret ?_
    | with_reducible refine t_ret ?_
    | with_reducible refine b_ret ?_
    | with_reducible refine w_exit ?_
    | with_reducible refine t_exit ?_
    | with_reducible refine b_here ?_
    | with_reducible refine b_on (by decide) ?_)
  refine s_val (v := .bool false) rfl rfl rfl rfl (by show some (Eff.val (V.bool (decide (n < 0)))) = _; rw [d1]) ?_
  repeat (first
    | ((with_reducible refine is_cons ?_); first
      | refine s_flat rfl rfl rfl rfl rfl rfl ?_
      | refine s_read rfl rfl rfl rfl (by simp only [Kind.ne, kLd, Heap.row, V.cells, hb, hc]; rfl) ?_
      | refine s_skip rfl ?_)
    | with_reducible refine s_nil ?_
    | with_reducible refine t_normal ?_
    | with_reducible refine w_seq ?_
    | with_reducible refine w_reg ?_
    | with_reducible refine w_block ?_
    | with_reducible refine w_skip ?_
    | with_reducible refine b_normal ?_
    | ((with_reducible refine is_cond ?_); first
      | refine w_true rfl ?_
      | refine w_false rfl ?_)
    | with_reducible refine w_ret ?_
    | with_reducible refine t_ret ?_
    | with_reducible refine b_ret ?_
    | with_reducible refine w_exit ?_
    | with_reducible refine t_exit ?_
    | with_reducible refine b_here ?_
    | with_reducible refine b_on (by decide) ?_)
  refine s_val (v := .bool true) rfl rfl rfl rfl (by show some (Eff.val (V.bool (decide (n ≥ ((0 : Nat) : Int))))) = _; rw [d2]) ?_
  repeat (first
    | ((with_reducible refine is_cons ?_); first
      | refine s_flat rfl rfl rfl rfl rfl rfl ?_
      | refine s_read rfl rfl rfl rfl (by simp only [Kind.ne, kLd, Heap.row, V.cells, hb, hc]; rfl) ?_
      | refine s_skip rfl ?_)
    | with_reducible refine s_nil ?_
    | with_reducible refine t_normal ?_
    | with_reducible refine w_seq ?_
    | with_reducible refine w_reg ?_
    | with_reducible refine w_block ?_
    | with_reducible refine w_skip ?_
    | with_reducible refine b_normal ?_
    | ((with_reducible refine is_cond ?_); first
      | refine w_true rfl ?_
      | refine w_false rfl ?_)
    | with_reducible refine w_ret ?_
    | with_reducible refine t_ret ?_
    | with_reducible refine b_ret ?_
    | with_reducible refine w_exit ?_
    | with_reducible refine t_exit ?_
    | with_reducible refine b_here ?_
    | with_reducible refine b_on (by decide) ?_)
  exact ⟨_, rfl, rfl, (Grow.refl H).push _⟩

theorem c63 {k c nb : Nat} {H : Heap} (h : Idle k c nb H) (n : Int) (hn : n ≤ 0) : CallT P 63 [.ptr (some (c, 0)), ni n] H fun v H' => v = .bool false ∧ Grow H H' := by
  refine callT_fun C.hm C.m63 ?_
  unfold ac63
  repeat (first
    | ((with_reducible refine is_cons ?_); first
      | refine s_flat rfl rfl rfl rfl rfl rfl ?_
      | refine s_read rfl rfl rfl rfl (by simp only [Kind.ne, kLd, Heap.row, V.cells]; rfl) ?_
      | refine s_skip rfl ?_)
    | with_reducible refine s_nil ?_
    | with_reducible refine t_normal ?_
    | with_reducible refine w_seq ?_
    | with_reducible refine w_reg ?_
    | with_reducible refine w_block ?_
    | with_reducible refine w_skip ?_
    | with_reducible refine b_normal ?_
    | ((with_reducible refine is_cond ?_); first
      | refine w_true rfl ?_
      | refine w_false rfl ?_)
    | with_reducible refine w_ret ?_
    | with_reducible refine t_ret ?_
    | with_reducible refine b_ret ?_
    | with_reducible refine w_exit ?_
    | with_reducible refine t_exit ?_
    | with_reducible refine b_here ?_
    | with_reducible refine b_on (by decide) ?_)
  refine s_call0 rfl rfl ((c144 C n hn _).mono ?_)
  rintro v H' ⟨rfl, rfl⟩
  repeat (first
    | ((with_reducible refine is_cons ?_); first
      | refine s_flat rfl rfl rfl rfl rfl rfl ?_
      | refine s_read rfl rfl rfl rfl (by simp only [Kind.ne, kLd, Heap.row, V.cells]; rfl) ?_
      | refine s_skip rfl ?_)
    | with_reducible refine s_nil ?_
    | with_reducible refine t_normal ?_
    | with_reducible refine w_seq ?_
    | with_reducible refine w_reg ?_
    | with_reducible refine w_block ?_
    | with_reducible refine w_skip ?_
    | with_reducible refine b_normal ?_
    | ((with_reducible refine is_cond ?_); first
      | refine w_true rfl ?_
      | refine w_false rfl ?_)
    | with_reducible refine w_ret ?_
    | with_reducible refine t_ret ?_
    | with_reducible refine b_ret ?_
    | with_reducible refine w_exit ?_
    | with_reducible refine t_exit ?_
    | with_reducible refine b_here ?_
    | with_reducible refine b_on (by decide) ?_)
  exact ⟨_, rfl, rfl, Grow.refl _⟩

theorem c64 {k c nb : Nat} {H : Heap} (h : Idle k c nb H) (j : Nat) (hj : j < k) : CallT P 64 [.ptr (some (c, 0)), ni j] H fun v H' => v = .bool false ∧ Grow H H' := by
  obtain ⟨h0, ⟨v1, f1, e1, v3, v4, h1⟩, ⟨xs, h2, h3, h4⟩, _⟩ := h
  obtain ⟨p, hp⟩ := h4 (xs[j]'(by omega)) (List.getElem_mem _)
  have hx : xs[j]? = some (.ptr (some p)) := by rw [List.getElem?_eq_getElem (by omega), hp]
  refine callT_fun C.hm C.m64 ?_
  unfold ac64
  have d1 : decide ((j : Int) < 0) = false := decide_eq_false (by omega)
  have d2 : decide ((j : Int) ≥ (k : Int)) = false := decide_eq_false (by omega)
  repeat (first
    | ((with_reducible refine is_cons ?_); first
      | refine s_flat rfl rfl rfl rfl rfl rfl ?_
      | refine s_read rfl rfl rfl rfl (by simp only [Kind.ne, kLd, Heap.row, V.cells]; rfl) ?_
      | refine s_skip rfl ?_)
    | with_reducible refine s_nil ?_
    | with_reducible refine t_normal ?_
    | with_reducible refine w_seq ?_
    | with_reducible refine w_reg ?_
    | with_reducible refine w_block ?_
    | with_reducible refine w_skip ?_
    | with_reducible refine b_normal ?_
    | ((with_reducible refine is_cond ?_); first
      | refine w_true rfl ?_
      | refine w_false rfl ?_)
    | with_reducible refine w_ret ?_
    | with_reducible refine t_ret ?_
    | with_reducible refine b_ret ?_
    | with_reducible refine w_exit ?_
    | with_reducible refine t_exit ?_
    | with_reducible refine b_here ?_
    | with_reducible refine b_on (by decide) ?_)
  refine s_val (v := .bool false) rfl rfl rfl rfl (by show some (Eff.val (V.bool (decide ((j : Int) < 0)))) = _; rw [d1]) ?_
  repeat (first
    | ((with_reducible refine is_cons ?_); first
      | refine s_flat rfl rfl rfl rfl rfl rfl ?_
      | refine s_read rfl rfl rfl rfl (by simp only [Kind.ne, kLd, Heap.row, V.cells, h1]; rfl) ?_
      | refine s_skip rfl ?_)
    | with_reducible refine s_nil ?_
    | with_reducible refine t_normal ?_
    | with_reducible refine w_seq ?_
    | with_reducible refine w_reg ?_
    | with_reducible refine w_block ?_
    | with_reducible refine w_skip ?_
    | with_reducible refine b_normal ?_
    | ((with_reducible refine is_cond ?_); first
      | refine w_true rfl ?_
      | refine w_false rfl ?_)
    | with_reducible refine w_ret ?_
    | with_reducible refine t_ret ?_
    | with_reducible refine b_ret ?_
    | with_reducible refine w_exit ?_
    | with_reducible refine t_exit ?_
    | with_reducible refine b_here ?_
    | with_reducible refine b_on (by decide) ?_)
  refine s_val (v := .bool false) rfl rfl rfl rfl (by show some (Eff.val (V.bool (decide ((j : Int) ≥ (k : Int))))) = _; rw [d2]) ?_
  repeat (first
    | ((with_reducible refine is_cons ?_); first
      | refine s_flat rfl rfl rfl rfl rfl rfl ?_
      | refine s_read rfl rfl rfl rfl (by simp only [Kind.ne, kLd, Heap.row, V.cells, h1]; rfl) ?_
      | refine s_skip rfl ?_)
    | with_reducible refine s_nil ?_
    | with_reducible refine t_normal ?_
    | with_reducible refine w_seq ?_
    | with_reducible refine w_reg ?_
    | with_reducible refine w_block ?_
    | with_reducible refine w_skip ?_
    | with_reducible refine b_normal ?_
    | ((with_reducible refine is_cond ?_); first
      | refine w_true rfl ?_
      | refine w_false rfl ?_)
    | with_reducible refine w_ret ?_
    | with_reducible refine t_ret ?_
    | with_reducible refine b_ret ?_
    | with_reducible refine w_exit ?_
    | with_reducible refine t_exit ?_
    | with_reducible refine b_here ?_
    | with_reducible refine b_on (by decide) ?_)
  refine s_val (v := .ptr (some (nb, j))) rfl rfl rfl rfl (by
    show kIaS 1 [.slice (some (nb, 0)) k f1 e1, ni j] = _
    simp only [ni, kIaS]
    rw [if_pos ⟨by omega, by omega⟩]
    simp) ?_
  refine s_read (v := .ptr (some p)) rfl rfl rfl rfl (by simp only [Kind.ne, kLd, h2, hx]; rfl) ?_
  repeat (first
    | ((with_reducible refine is_cons ?_); first
      | refine s_flat rfl rfl rfl rfl rfl rfl ?_
      | refine s_read rfl rfl rfl rfl (by simp only [Kind.ne, kLd, Heap.row, V.cells]; rfl) ?_
      | refine s_skip rfl ?_)
    | with_reducible refine s_nil ?_
    | with_reducible refine t_normal ?_
    | with_reducible refine w_seq ?_
    | with_reducible refine w_reg ?_
    | with_reducible refine w_block ?_
    | with_reducible refine w_skip ?_
    | with_reducible refine b_normal ?_
    | ((with_reducible refine is_cond ?_); first
      | refine w_true rfl ?_
      | refine w_false rfl ?_)
    | with_reducible refine w_ret ?_
    | with_reducible refine t_ret ?_
    | with_reducible refine b_ret ?_
    | with_reducible refine w_exit ?_
    | with_reducible refine t_exit ?_
    | with_reducible refine b_here ?_
    | with_reducible refine b_on (by decide) ?_)
  exact ⟨_, rfl, rfl, Grow.refl _⟩
end Go.Cn

/- cluster.Do of a step that does not apply. -/
namespace Go.Cn
set_option linter.unusedVariables false
set_option linter.unusedSimpArgs false

variable {P : Program} (C : CIP P)

/-- A step that does not apply, where 'k' nodes are up and no letter is there. -/
def Vain (k : Nat) (kd n cl : Int) : Prop :=
  (kd = 1 ∧ cl ≤ 0) ∨ ((kd = 2 ∨ kd = 3 ∨ kd = 4) ∧ 0 ≤ n) ∨ (kd = 6 ∧ n ≤ 0) ∨ (kd = 9 ∧ 0 ≤ n ∧ n < k) ∨ ((kd = 5 ∨ kd = 7 ∨ kd = 8) ∧ (k : Int) ≤ n) ∨ (kd < 1 ∨ 9 < kd)

include C

theorem c21 {k c nb : Nat} {H : Heap} (h : Idle k c nb H) (kd n cnt cl ck c2 c3 : Int) (k1 k2 k3 k4 : List UInt8) (p : Option (Nat × Nat)) (len : Nat) (f : Bool) (es : Nat) (hv : Vain k kd n cl) :
    CallT P 21 [.ptr (some (c, 0)), .agg (srow kd n cnt cl ck c2 c3 k1 k2 k3 k4 (.slice p len f es))] H fun v H' => v = .bool false ∧ Grow H H' := by
  refine callT_fun C.hm C.m21 ?_
  unfold ac21
  have hb := push_new H (.cells 0 false (srow kd n cnt cl ck c2 c3 k1 k2 k3 k4 (.slice p len f es)))
  have g0 : Grow H (H.push (.cells 0 false (srow kd n cnt cl ck c2 c3 k1 k2 k3 k4 (.slice p len f es)))) := (Grow.refl H).push _
  have hI := h.grow g0
  have hr : (H.push (.cells 0 false (srow kd n cnt cl ck c2 c3 k1 k2 k3 k4 (.slice p len f es)))).row H.next 0 12 = some (srow kd n cnt cl ck c2 c3 k1 k2 k3 k4 (.slice p len f es)) := by
    simp only [Heap.row, hb]; rfl
  refine w_seq (w_reg (s_new rfl rfl rfl rfl rfl ?_))
  rcases hv with ⟨rfl, hcl⟩ | ⟨hk, hn⟩ | ⟨rfl, hn⟩ | ⟨rfl, hn, hn2⟩ | ⟨hk, hn⟩ | hk
  · skip
    repeat (first
      | ((with_reducible refine is_cons ?_); first
        | refine s_val rfl rfl rfl rfl rfl ?_
        | refine s_read rfl rfl rfl rfl (by simp only [Kind.ne, kLd, Heap.row, V.cells, hb]; rfl) ?_
        | refine s_skip rfl ?_)
      | with_reducible refine s_nil ?_
      | with_reducible refine t_normal ?_
      | with_reducible refine w_seq ?_
      | with_reducible refine w_reg ?_
      | with_reducible refine w_block ?_
      | with_reducible refine w_skip ?_
      | with_reducible refine b_normal ?_
      | ((with_reducible refine is_cond ?_); first
        | refine w_true rfl ?_
        | refine w_false rfl ?_)
      | with_reducible refine w_ret ?_
      | with_reducible refine t_ret ?_
      | with_reducible refine b_ret ?_
      | with_reducible refine w_exit ?_
      | with_reducible refine t_exit ?_
      | with_reducible refine b_here ?_
      | with_reducible refine b_on (by decide) ?_)
    refine s_call0 rfl rfl ((c61 C hI _ n cnt cl ck c2 c3 k1 k2 k3 k4 p len f es hcl).mono ?_)
    rintro v H' ⟨rfl, g⟩
    repeat (first
      | ((with_reducible refine is_cons ?_); first
        | refine s_val rfl rfl rfl rfl rfl ?_
        | refine s_read rfl rfl rfl rfl (by simp only [Kind.ne, kLd, Heap.row, V.cells, hb]; rfl) ?_
        | refine s_skip rfl ?_)
      | with_reducible refine s_nil ?_
      | with_reducible refine t_normal ?_
      | with_reducible refine w_seq ?_
      | with_reducible refine w_reg ?_
      | with_reducible refine w_block ?_
      | with_reducible refine w_skip ?_
      | with_reducible refine b_normal ?_
      | ((with_reducible refine is_cond ?_); first
        | refine w_true rfl ?_
        | refine w_false rfl ?_)
      | with_reducible refine w_ret ?_
      | with_reducible refine t_ret ?_
      | with_reducible refine b_ret ?_
      | with_reducible refine w_exit ?_
      | with_reducible refine t_exit ?_
      | with_reducible refine b_here ?_
      | with_reducible refine b_on (by decide) ?_)
    exact ⟨_, rfl, rfl, g0.trans g⟩
  · rcases hk with rfl | rfl | rfl
    all_goals
      repeat (first
        | ((with_reducible refine is_cons ?_); first
          | refine s_val rfl rfl rfl rfl rfl ?_
          | refine s_read rfl rfl rfl rfl (by simp only [Kind.ne, kLd, Heap.row, V.cells, hb]; rfl) ?_
          | refine s_skip rfl ?_)
        | with_reducible refine s_nil ?_
        | with_reducible refine t_normal ?_
        | with_reducible refine w_seq ?_
        | with_reducible refine w_reg ?_
        | with_reducible refine w_block ?_
        | with_reducible refine w_skip ?_
        | with_reducible refine b_normal ?_
        | ((with_reducible refine is_cond ?_); first
          | refine w_true rfl ?_
          | refine w_false rfl ?_)
        | with_reducible refine w_ret ?_
        | with_reducible refine t_ret ?_
        | with_reducible refine b_ret ?_
        | with_reducible refine w_exit ?_
        | with_reducible refine t_exit ?_
        | with_reducible refine b_here ?_
        | with_reducible refine b_on (by decide) ?_)
      refine s_call0 rfl rfl ((c62 C hI _ n cnt cl ck c2 c3 k1 k2 k3 k4 p len f es hn).mono ?_)
      rintro v H' ⟨rfl, g⟩
      repeat (first
        | ((with_reducible refine is_cons ?_); first
          | refine s_val rfl rfl rfl rfl rfl ?_
          | refine s_read rfl rfl rfl rfl (by simp only [Kind.ne, kLd, Heap.row, V.cells, hb]; rfl) ?_
          | refine s_skip rfl ?_)
        | with_reducible refine s_nil ?_
        | with_reducible refine t_normal ?_
        | with_reducible refine w_seq ?_
        | with_reducible refine w_reg ?_
        | with_reducible refine w_block ?_
        | with_reducible refine w_skip ?_
        | with_reducible refine b_normal ?_
        | ((with_reducible refine is_cond ?_); first
          | refine w_true rfl ?_
          | refine w_false rfl ?_)
        | with_reducible refine w_ret ?_
        | with_reducible refine t_ret ?_
        | with_reducible refine b_ret ?_
        | with_reducible refine w_exit ?_
        | with_reducible refine t_exit ?_
        | with_reducible refine b_here ?_
        | with_reducible refine b_on (by decide) ?_)
      exact ⟨_, rfl, rfl, g0.trans g⟩
  · skip
    repeat (first
      | ((with_reducible refine is_cons ?_); first
        | refine s_val rfl rfl rfl rfl rfl ?_
        | refine s_read rfl rfl rfl rfl (by simp only [Kind.ne, kLd, Heap.row, V.cells, hb]; rfl) ?_
        | refine s_skip rfl ?_)
      | with_reducible refine s_nil ?_
      | with_reducible refine t_normal ?_
      | with_reducible refine w_seq ?_
      | with_reducible refine w_reg ?_
      | with_reducible refine w_block ?_
      | with_reducible refine w_skip ?_
      | with_reducible refine b_normal ?_
      | ((with_reducible refine is_cond ?_); first
        | refine w_true rfl ?_
        | refine w_false rfl ?_)
      | with_reducible refine w_ret ?_
      | with_reducible refine t_ret ?_
      | with_reducible refine b_ret ?_
      | with_reducible refine w_exit ?_
      | with_reducible refine t_exit ?_
      | with_reducible refine b_here ?_
      | with_reducible refine b_on (by decide) ?_)
    refine s_call0 rfl rfl ((c63 C hI n hn).mono ?_)
    rintro v H' ⟨rfl, g⟩
    repeat (first
      | ((with_reducible refine is_cons ?_); first
        | refine s_val rfl rfl rfl rfl rfl ?_
        | refine s_read rfl rfl rfl rfl (by simp only [Kind.ne, kLd, Heap.row, V.cells, hb]; rfl) ?_
        | refine s_skip rfl ?_)
      | with_reducible refine s_nil ?_
      | with_reducible refine t_normal ?_
      | with_reducible refine w_seq ?_
      | with_reducible refine w_reg ?_
      | with_reducible refine w_block ?_
      | with_reducible refine w_skip ?_
      | with_reducible refine b_normal ?_
      | ((with_reducible refine is_cond ?_); first
        | refine w_true rfl ?_
        | refine w_false rfl ?_)
      | with_reducible refine w_ret ?_
      | with_reducible refine t_ret ?_
      | with_reducible refine b_ret ?_
      | with_reducible refine w_exit ?_
      | with_reducible refine t_exit ?_
      | with_reducible refine b_here ?_
      | with_reducible refine b_on (by decide) ?_)
    exact ⟨_, rfl, rfl, g0.trans g⟩
  · obtain ⟨j, rfl⟩ := Int.eq_ofNat_of_zero_le hn
    repeat (first
      | ((with_reducible refine is_cons ?_); first
        | refine s_val rfl rfl rfl rfl rfl ?_
        | refine s_read rfl rfl rfl rfl (by simp only [Kind.ne, kLd, Heap.row, V.cells, hb]; rfl) ?_
        | refine s_skip rfl ?_)
      | with_reducible refine s_nil ?_
      | with_reducible refine t_normal ?_
      | with_reducible refine w_seq ?_
      | with_reducible refine w_reg ?_
      | with_reducible refine w_block ?_
      | with_reducible refine w_skip ?_
      | with_reducible refine b_normal ?_
      | ((with_reducible refine is_cond ?_); first
        | refine w_true rfl ?_
        | refine w_false rfl ?_)
      | with_reducible refine w_ret ?_
      | with_reducible refine t_ret ?_
      | with_reducible refine b_ret ?_
      | with_reducible refine w_exit ?_
      | with_reducible refine t_exit ?_
      | with_reducible refine b_here ?_
      | with_reducible refine b_on (by decide) ?_)
    refine s_call0 rfl rfl ((c64 C hI j (by omega)).mono ?_)
    rintro v H' ⟨rfl, g⟩
    repeat (first
      | ((with_reducible refine is_cons ?_); first
        | refine s_val rfl rfl rfl rfl rfl ?_
        | refine s_read rfl rfl rfl rfl (by simp only [Kind.ne, kLd, Heap.row, V.cells, hb]; rfl) ?_
        | refine s_skip rfl ?_)
      | with_reducible refine s_nil ?_
      | with_reducible refine t_normal ?_
      | with_reducible refine w_seq ?_
      | with_reducible refine w_reg ?_
      | with_reducible refine w_block ?_
      | with_reducible refine w_skip ?_
      | with_reducible refine b_normal ?_
      | ((with_reducible refine is_cond ?_); first
        | refine w_true rfl ?_
        | refine w_false rfl ?_)
      | with_reducible refine w_ret ?_
      | with_reducible refine t_ret ?_
      | with_reducible refine b_ret ?_
      | with_reducible refine w_exit ?_
      | with_reducible refine t_exit ?_
      | with_reducible refine b_here ?_
      | with_reducible refine b_on (by decide) ?_)
    exact ⟨_, rfl, rfl, g0.trans g⟩
  · rcases hk with rfl | rfl | rfl
    all_goals
      repeat (first
        | ((with_reducible refine is_cons ?_); first
          | refine s_val rfl rfl rfl rfl rfl ?_
          | refine s_read rfl rfl rfl rfl (by simp only [Kind.ne, kLd, Heap.row, V.cells, hb]; rfl) ?_
          | refine s_skip rfl ?_)
        | with_reducible refine s_nil ?_
        | with_reducible refine t_normal ?_
        | with_reducible refine w_seq ?_
        | with_reducible refine w_reg ?_
        | with_reducible refine w_block ?_
        | with_reducible refine w_skip ?_
        | with_reducible refine b_normal ?_
        | ((with_reducible refine is_cond ?_); first
          | refine w_true rfl ?_
          | refine w_false rfl ?_)
        | with_reducible refine w_ret ?_
        | with_reducible refine t_ret ?_
        | with_reducible refine b_ret ?_
        | with_reducible refine w_exit ?_
        | with_reducible refine t_exit ?_
        | with_reducible refine b_here ?_
        | with_reducible refine b_on (by decide) ?_)
      refine s_call0 rfl rfl ((c22_none C hI n (.inr hn)).mono ?_)
      rintro v H' ⟨rfl, rfl⟩
      repeat (first
        | ((with_reducible refine is_cons ?_); first
          | refine s_val rfl rfl rfl rfl rfl ?_
          | refine s_read rfl rfl rfl rfl (by simp only [Kind.ne, kLd, Heap.row, V.cells, hb]; rfl) ?_
          | refine s_skip rfl ?_)
        | with_reducible refine s_nil ?_
        | with_reducible refine t_normal ?_
        | with_reducible refine w_seq ?_
        | with_reducible refine w_reg ?_
        | with_reducible refine w_block ?_
        | with_reducible refine w_skip ?_
        | with_reducible refine b_normal ?_
        | ((with_reducible refine is_cond ?_); first
          | refine w_true rfl ?_
          | refine w_false rfl ?_)
        | with_reducible refine w_ret ?_
        | with_reducible refine t_ret ?_
        | with_reducible refine b_ret ?_
        | with_reducible refine w_exit ?_
        | with_reducible refine t_exit ?_
        | with_reducible refine b_here ?_
        | with_reducible refine b_on (by decide) ?_)
      exact ⟨_, rfl, rfl, g0⟩
  · have e : ∀ j : Int, 1 ≤ j → j ≤ 9 → (kd == j) = false := fun j h1 h2 => beq_eq_false_iff_ne.2 (by omega)
    have e1 := e 1 (by omega) (by omega)
    have e2 := e 2 (by omega) (by omega)
    have e3 := e 3 (by omega) (by omega)
    have e4 := e 4 (by omega) (by omega)
    have e5 := e 5 (by omega) (by omega)
    have e6 := e 6 (by omega) (by omega)
    have e7 := e 7 (by omega) (by omega)
    have e8 := e 8 (by omega) (by omega)
    have e9 := e 9 (by omega) (by omega)
    repeat (first
      | ((with_reducible refine is_cons ?_); first
        | refine s_flat rfl rfl rfl rfl rfl rfl ?_
        | refine s_read rfl rfl rfl rfl (by simp only [Kind.ne, kLd, Heap.row, V.cells, hb]; rfl) ?_
        | refine s_skip rfl ?_)
      | with_reducible refine s_nil ?_
      | with_reducible refine t_normal ?_
      | with_reducible refine w_seq ?_
      | with_reducible refine w_reg ?_
      | with_reducible refine w_block ?_
      | with_reducible refine w_skip ?_
      | with_reducible refine b_normal ?_
      | ((with_reducible refine is_cond ?_); first
        | refine w_true rfl ?_
        | refine w_false rfl ?_)
      | with_reducible refine w_ret ?_
      | with_reducible refine t_ret ?_
      | with_reducible refine b_ret ?_
      | with_reducible refine w_exit ?_
      | with_reducible refine t_exit ?_
      | with_reducible refine b_here ?_
      | with_reducible refine b_on (by decide) ?_)
    refine s_val (v := .bool false) rfl rfl rfl rfl (by show some (Eff.val (V.bool (kd == 1))) = _; rw [e1]) ?_
    repeat (first
      | ((with_reducible refine is_cons ?_); first
        | refine s_flat rfl rfl rfl rfl rfl rfl ?_
        | refine s_read rfl rfl rfl rfl (by simp only [Kind.ne, kLd, Heap.row, V.cells, hb]; rfl) ?_
        | refine s_skip rfl ?_)
      | with_reducible refine s_nil ?_
      | with_reducible refine t_normal ?_
      | with_reducible refine w_seq ?_
      | with_reducible refine w_reg ?_
      | with_reducible refine w_block ?_
      | with_reducible refine w_skip ?_
      | with_reducible refine b_normal ?_
      | ((with_reducible refine is_cond ?_); first
        | refine w_true rfl ?_
        | refine w_false rfl ?_)
      | with_reducible refine w_ret ?_
      | with_reducible refine t_ret ?_
      | with_reducible refine b_ret ?_
      | with_reducible refine w_exit ?_
      | with_reducible refine t_exit ?_
      | with_reducible refine b_here ?_
      | with_reducible refine b_on (by decide) ?_)
    refine s_val (v := .bool false) rfl rfl rfl rfl (by show some (Eff.val (V.bool (kd == 2))) = _; rw [e2]) ?_
    repeat (first
      | ((with_reducible refine is_cons ?_); first
        | refine s_flat rfl rfl rfl rfl rfl rfl ?_
        | refine s_read rfl rfl rfl rfl (by simp only [Kind.ne, kLd, Heap.row, V.cells, hb]; rfl) ?_
        | refine s_skip rfl ?_)
      | with_reducible refine s_nil ?_
      | with_reducible refine t_normal ?_
      | with_reducible refine w_seq ?_
      | with_reducible refine w_reg ?_
      | with_reducible refine w_block ?_
      | with_reducible refine w_skip ?_
      | with_reducible refine b_normal ?_
      | ((with_reducible refine is_cond ?_); first
        | refine w_true rfl ?_
        | refine w_false rfl ?_)
      | with_reducible refine w_ret ?_
      | with_reducible refine t_ret ?_
      | with_reducible refine b_ret ?_
      | with_reducible refine w_exit ?_
      | with_reducible refine t_exit ?_
      | with_reducible refine b_here ?_
      | with_reducible refine b_on (by decide) ?_)
    refine s_val (v := .bool false) rfl rfl rfl rfl (by show some (Eff.val (V.bool (kd == 3))) = _; rw [e3]) ?_
    repeat (first
      | ((with_reducible refine is_cons ?_); first
        | refine s_flat rfl rfl rfl rfl rfl rfl ?_
        | refine s_read rfl rfl rfl rfl (by simp only [Kind.ne, kLd, Heap.row, V.cells, hb]; rfl) ?_
        | refine s_skip rfl ?_)
      | with_reducible refine s_nil ?_
      | with_reducible refine t_normal ?_
      | with_reducible refine w_seq ?_
      | with_reducible refine w_reg ?_
      | with_reducible refine w_block ?_
      | with_reducible refine w_skip ?_
      | with_reducible refine b_normal ?_
      | ((with_reducible refine is_cond ?_); first
        | refine w_true rfl ?_
        | refine w_false rfl ?_)
      | with_reducible refine w_ret ?_
      | with_reducible refine t_ret ?_
      | with_reducible refine b_ret ?_
      | with_reducible refine w_exit ?_
      | with_reducible refine t_exit ?_
      | with_reducible refine b_here ?_
      | with_reducible refine b_on (by decide) ?_)
    refine s_val (v := .bool false) rfl rfl rfl rfl (by show some (Eff.val (V.bool (kd == 4))) = _; rw [e4]) ?_
    repeat (first
      | ((with_reducible refine is_cons ?_); first
        | refine s_flat rfl rfl rfl rfl rfl rfl ?_
        | refine s_read rfl rfl rfl rfl (by simp only [Kind.ne, kLd, Heap.row, V.cells, hb]; rfl) ?_
        | refine s_skip rfl ?_)
      | with_reducible refine s_nil ?_
      | with_reducible refine t_normal ?_
      | with_reducible refine w_seq ?_
      | with_reducible refine w_reg ?_
      | with_reducible refine w_block ?_
      | with_reducible refine w_skip ?_
      | with_reducible refine b_normal ?_
      | ((with_reducible refine is_cond ?_); first
        | refine w_true rfl ?_
        | refine w_false rfl ?_)
      | with_reducible refine w_ret ?_
      | with_reducible refine t_ret ?_
      | with_reducible refine b_ret ?_
      | with_reducible refine w_exit ?_
      | with_reducible refine t_exit ?_
      | with_reducible refine b_here ?_
      | with_reducible refine b_on (by decide) ?_)
    refine s_val (v := .bool false) rfl rfl rfl rfl (by show some (Eff.val (V.bool (kd == 6))) = _; rw [e6]) ?_
    repeat (first
      | ((with_reducible refine is_cons ?_); first
        | refine s_flat rfl rfl rfl rfl rfl rfl ?_
        | refine s_read rfl rfl rfl rfl (by simp only [Kind.ne, kLd, Heap.row, V.cells, hb]; rfl) ?_
        | refine s_skip rfl ?_)
      | with_reducible refine s_nil ?_
      | with_reducible refine t_normal ?_
      | with_reducible refine w_seq ?_
      | with_reducible refine w_reg ?_
      | with_reducible refine w_block ?_
      | with_reducible refine w_skip ?_
      | with_reducible refine b_normal ?_
      | ((with_reducible refine is_cond ?_); first
        | refine w_true rfl ?_
        | refine w_false rfl ?_)
      | with_reducible refine w_ret ?_
      | with_reducible refine t_ret ?_
      | with_reducible refine b_ret ?_
      | with_reducible refine w_exit ?_
      | with_reducible refine t_exit ?_
      | with_reducible refine b_here ?_
      | with_reducible refine b_on (by decide) ?_)
    refine s_val (v := .bool false) rfl rfl rfl rfl (by show some (Eff.val (V.bool (kd == 9))) = _; rw [e9]) ?_
    repeat (first
      | ((with_reducible refine is_cons ?_); first
        | refine s_flat rfl rfl rfl rfl rfl rfl ?_
        | refine s_read rfl rfl rfl rfl (by simp only [Kind.ne, kLd, Heap.row, V.cells, hb]; rfl) ?_
        | refine s_skip rfl ?_)
      | with_reducible refine s_nil ?_
      | with_reducible refine t_normal ?_
      | with_reducible refine w_seq ?_
      | with_reducible refine w_reg ?_
      | with_reducible refine w_block ?_
      | with_reducible refine w_skip ?_
      | with_reducible refine b_normal ?_
      | ((with_reducible refine is_cond ?_); first
        | refine w_true rfl ?_
        | refine w_false rfl ?_)
      | with_reducible refine w_ret ?_
      | with_reducible refine t_ret ?_
      | with_reducible refine b_ret ?_
      | with_reducible refine w_exit ?_
      | with_reducible refine t_exit ?_
      | with_reducible refine b_here ?_
      | with_reducible refine b_on (by decide) ?_)
    by_cases hn : n < 0 ∨ (k : Int) ≤ n
    · refine s_call0 rfl rfl ((c22_none C hI n hn).mono ?_)
      rintro v H' ⟨rfl, rfl⟩
      repeat (first
        | ((with_reducible refine is_cons ?_); first
          | refine s_flat rfl rfl rfl rfl rfl rfl ?_
          | refine s_read rfl rfl rfl rfl (by simp only [Kind.ne, kLd, Heap.row, V.cells, hb]; rfl) ?_
          | refine s_skip rfl ?_)
        | with_reducible refine s_nil ?_
        | with_reducible refine t_normal ?_
        | with_reducible refine w_seq ?_
        | with_reducible refine w_reg ?_
        | with_reducible refine w_block ?_
        | with_reducible refine w_skip ?_
        | with_reducible refine b_normal ?_
        | ((with_reducible refine is_cond ?_); first
          | refine w_true rfl ?_
          | refine w_false rfl ?_)
        | with_reducible refine w_ret ?_
        | with_reducible refine t_ret ?_
        | with_reducible refine b_ret ?_
        | with_reducible refine w_exit ?_
        | with_reducible refine t_exit ?_
        | with_reducible refine b_here ?_
        | with_reducible refine b_on (by decide) ?_)
      exact ⟨_, rfl, rfl, g0⟩
    · obtain ⟨j, rfl⟩ := Int.eq_ofNat_of_zero_le (show 0 ≤ n by omega)
      refine s_call0 rfl rfl ((c22_some C hI j (by omega)).mono ?_)
      rintro v H' ⟨⟨q, rfl⟩, rfl⟩
      repeat (first
        | ((with_reducible refine is_cons ?_); first
          | refine s_flat rfl rfl rfl rfl rfl rfl ?_
          | refine s_read rfl rfl rfl rfl (by simp only [Kind.ne, kLd, Heap.row, V.cells, hb]; rfl) ?_
          | refine s_skip rfl ?_)
        | with_reducible refine s_nil ?_
        | with_reducible refine t_normal ?_
        | with_reducible refine w_seq ?_
        | with_reducible refine w_reg ?_
        | with_reducible refine w_block ?_
        | with_reducible refine w_skip ?_
        | with_reducible refine b_normal ?_
        | ((with_reducible refine is_cond ?_); first
          | refine w_true rfl ?_
          | refine w_false rfl ?_)
        | with_reducible refine w_ret ?_
        | with_reducible refine t_ret ?_
        | with_reducible refine b_ret ?_
        | with_reducible refine w_exit ?_
        | with_reducible refine t_exit ?_
        | with_reducible refine b_here ?_
        | with_reducible refine b_on (by decide) ?_)
      refine s_val (v := .bool false) rfl rfl rfl rfl (by show some (Eff.val (V.bool (kd == 5))) = _; rw [e5]) ?_
      repeat (first
        | ((with_reducible refine is_cons ?_); first
          | refine s_flat rfl rfl rfl rfl rfl rfl ?_
          | refine s_read rfl rfl rfl rfl (by simp only [Kind.ne, kLd, Heap.row, V.cells, hb]; rfl) ?_
          | refine s_skip rfl ?_)
        | with_reducible refine s_nil ?_
        | with_reducible refine t_normal ?_
        | with_reducible refine w_seq ?_
        | with_reducible refine w_reg ?_
        | with_reducible refine w_block ?_
        | with_reducible refine w_skip ?_
        | with_reducible refine b_normal ?_
        | ((with_reducible refine is_cond ?_); first
          | refine w_true rfl ?_
          | refine w_false rfl ?_)
        | with_reducible refine w_ret ?_
        | with_reducible refine t_ret ?_
        | with_reducible refine b_ret ?_
        | with_reducible refine w_exit ?_
        | with_reducible refine t_exit ?_
        | with_reducible refine b_here ?_
        | with_reducible refine b_on (by decide) ?_)
      refine s_val (v := .bool false) rfl rfl rfl rfl (by show some (Eff.val (V.bool (kd == 7))) = _; rw [e7]) ?_
      repeat (first
        | ((with_reducible refine is_cons ?_); first
          | refine s_flat rfl rfl rfl rfl rfl rfl ?_
          | refine s_read rfl rfl rfl rfl (by simp only [Kind.ne, kLd, Heap.row, V.cells, hb]; rfl) ?_
          | refine s_skip rfl ?_)
        | with_reducible refine s_nil ?_
        | with_reducible refine t_normal ?_
        | with_reducible refine w_seq ?_
        | with_reducible refine w_reg ?_
        | with_reducible refine w_block ?_
        | with_reducible refine w_skip ?_
        | with_reducible refine b_normal ?_
        | ((with_reducible refine is_cond ?_); first
          | refine w_true rfl ?_
          | refine w_false rfl ?_)
        | with_reducible refine w_ret ?_
        | with_reducible refine t_ret ?_
        | with_reducible refine b_ret ?_
        | with_reducible refine w_exit ?_
        | with_reducible refine t_exit ?_
        | with_reducible refine b_here ?_
        | with_reducible refine b_on (by decide) ?_)
      refine s_val (v := .bool false) rfl rfl rfl rfl (by show some (Eff.val (V.bool (kd == 8))) = _; rw [e8]) ?_
      repeat (first
        | ((with_reducible refine is_cons ?_); first
          | refine s_flat rfl rfl rfl rfl rfl rfl ?_
          | refine s_read rfl rfl rfl rfl (by simp only [Kind.ne, kLd, Heap.row, V.cells, hb]; rfl) ?_
          | refine s_skip rfl ?_)
        | with_reducible refine s_nil ?_
        | with_reducible refine t_normal ?_
        | with_reducible refine w_seq ?_
        | with_reducible refine w_reg ?_
        | with_reducible refine w_block ?_
        | with_reducible refine w_skip ?_
        | with_reducible refine b_normal ?_
        | ((with_reducible refine is_cond ?_); first
          | refine w_true rfl ?_
          | refine w_false rfl ?_)
        | with_reducible refine w_ret ?_
        | with_reducible refine t_ret ?_
        | with_reducible refine b_ret ?_
        | with_reducible refine w_exit ?_
        | with_reducible refine t_exit ?_
        | with_reducible refine b_here ?_
        | with_reducible refine b_on (by decide) ?_)
      exact ⟨_, rfl, rfl, g0⟩
end Go.Cn
