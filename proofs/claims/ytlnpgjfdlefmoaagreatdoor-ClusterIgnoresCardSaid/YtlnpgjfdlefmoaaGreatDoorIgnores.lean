/- ClusterIgnores, walked. -/
import Derived.Test.YtlnpgjfdlefmoaaGreatDoorParts
namespace Go.Cn
set_option linter.unusedVariables false
set_option linter.unusedSimpArgs false

variable {P : Program} (C : CIP P)
include C

theorem c22_cold {k c nb : Nat} {H : Heap} (h : Cold k c nb H) (j : Nat) (hj : j < k) : CallT P 22 [.ptr (some (c, 0)), ni j] H fun v H' => (∃ x, v = .ptr (some (x, 0)) ∧ Still x H) ∧ H' = H := by
  obtain ⟨⟨h0, ⟨v1, f1, e1, v3, v4, h1⟩, _⟩, xs, h2, h3, h4⟩ := h
  obtain ⟨x, hp, hst⟩ := h4 (xs[j]'(by omega)) (List.getElem_mem _)
  have hx : xs[j]? = some (.ptr (some (x, 0))) := by rw [List.getElem?_eq_getElem (by omega), hp]
  refine callT_fun C.hm C.m22 ?_
  unfold ac22
  have d1 : decide ((j : Int) < 0) = false := decide_eq_false (by omega)
  have d2 : decide ((j : Int) ≥ (k : Int)) = false := decide_eq_false (by omega)
  repeat (first
    | ((with_reducible refine is_cons ?_); first
      | refine s_flat rfl rfl rfl rfl rfl rfl ?_
      | refine s_read rfl rfl rfl rfl (by simp only [Kind.ne, kLd, Heap.row, V.cells]; rfl) ?_
      | refine s_skip rfl ?_)
    | with_reducible refine s_nil ?_
    | with_reducible refine t_normal ?_
    | with_reducible refine w_seq ?_
    | with_reducible refine w_reg ?_
    | with_reducible refine w_block ?_
    | with_reducible refine w_skip ?_
    | with_reducible refine b_normal ?_
    | ((with_reducible refine is_cond ?_); first
      | refine w_true rfl ?_
      | refine w_false rfl ?_)
    | with_reducible refine w_ret ?_
    | with_reducible refine t_ret ?_
    | with_reducible refine b_ret ?_
    | with_reducible refine w_exit ?_
    | with_reducible refine t_exit ?_
    | with_reducible refine b_here ?_
    | with_reducible refine b_on (by decide) ?_)
  refine s_val (v := .bool false) rfl rfl rfl rfl (by show some (Eff.val (V.bool (decide ((j : Int) < 0)))) = _; rw [d1]) ?_
  repeat (first
    | ((with_reducible refine is_cons ?_); first
      | refine s_flat rfl rfl rfl rfl rfl rfl ?_
      | refine s_read rfl rfl rfl rfl (by simp only [Kind.ne, kLd, Heap.row, V.cells, h1]; rfl) ?_
      | refine s_skip rfl ?_)
    | with_reducible refine s_nil ?_
    | with_reducible refine t_normal ?_
    | with_reducible refine w_seq ?_
    | with_reducible refine w_reg ?_
    | with_reducible refine w_block ?_
    | with_reducible refine w_skip ?_
    | with_reducible refine b_normal ?_
    | ((with_reducible refine is_cond ?_); first
      | refine w_true rfl ?_
      | refine w_false rfl ?_)
    | with_reducible refine w_ret ?_
    | with_reducible refine t_ret ?_
    | with_reducible refine b_ret ?_
    | with_reducible refine w_exit ?_
    | with_reducible refine t_exit ?_
    | with_reducible refine b_here ?_
    | with_reducible refine b_on (by decide) ?_)
  refine s_val (v := .bool false) rfl rfl rfl rfl (by show some (Eff.val (V.bool (decide ((j : Int) ≥ (k : Int))))) = _; rw [d2]) ?_
  repeat (first
    | ((with_reducible refine is_cons ?_); first
      | refine s_flat rfl rfl rfl rfl rfl rfl ?_
      | refine s_read rfl rfl rfl rfl (by simp only [Kind.ne, kLd, Heap.row, V.cells, h1]; rfl) ?_
      | refine s_skip rfl ?_)
    | with_reducible refine s_nil ?_
    | with_reducible refine t_normal ?_
    | with_reducible refine w_seq ?_
    | with_reducible refine w_reg ?_
    | with_reducible refine w_block ?_
    | with_reducible refine w_skip ?_
    | with_reducible refine b_normal ?_
    | ((with_reducible refine is_cond ?_); first
      | refine w_true rfl ?_
      | refine w_false rfl ?_)
    | with_reducible refine w_ret ?_
    | with_reducible refine t_ret ?_
    | with_reducible refine b_ret ?_
    | with_reducible refine w_exit ?_
    | with_reducible refine t_exit ?_
    | with_reducible refine b_here ?_
    | with_reducible refine b_on (by decide) ?_)
  refine s_val (v := .ptr (some (nb, j))) rfl rfl rfl rfl (by
    show kIaS 1 [.slice (some (nb, 0)) k f1 e1, ni j] = _
    simp only [ni, kIaS]
    rw [if_pos ⟨by omega, by omega⟩]
    simp) ?_
  refine s_read (v := .ptr (some (x, 0))) rfl rfl rfl rfl (by simp only [Kind.ne, kLd, h2, hx]; rfl) ?_
  repeat (first
    | ((with_reducible refine is_cons ?_); first
      | refine s_flat rfl rfl rfl rfl rfl rfl ?_
      | refine s_read rfl rfl rfl rfl (by simp only [Kind.ne, kLd, Heap.row, V.cells]; rfl) ?_
      | refine s_skip rfl ?_)
    | with_reducible refine s_nil ?_
    | with_reducible refine t_normal ?_
    | with_reducible refine w_seq ?_
    | with_reducible refine w_reg ?_
    | with_reducible refine w_block ?_
    | with_reducible refine w_skip ?_
    | with_reducible refine b_normal ?_
    | ((with_reducible refine is_cond ?_); first
      | refine w_true rfl ?_
      | refine w_false rfl ?_)
    | with_reducible refine w_ret ?_
    | with_reducible refine t_ret ?_
    | with_reducible refine b_ret ?_
    | with_reducible refine w_exit ?_
    | with_reducible refine t_exit ?_
    | with_reducible refine b_here ?_
    | with_reducible refine b_on (by decide) ?_)
  exact ⟨_, rfl, ⟨_, rfl, hst⟩, rfl⟩

def Q4 : AEx → Env → Heap → Prop := fun x e H' => match x with | .exit _ => False | _ => ∃ v, resOf H' e rv4 = some v ∧ v = .bool true

set_option maxHeartbeats 1000000 in
theorem part_tail (hR : ∀ H, CallT P 26 [] H fun v H' => v = .bool true ∧ H' = H) {e : Env} {H : Heap} {k c nb : Nat} (k5 : lk e 5 = some (.ptr (some (c, 0)))) (hc : Cold k c nb H) : acwp P ac4t Q4 e H := by
  have z5 : (Kind.eqF true [.i, .i, .i, .i, .i, .i, .i]).ne H [.agg z7, .agg z7] = some (.val (.bool false)) := rfl
  unfold ac4t
  repeat (first
    | ((with_reducible refine is_cons ?_); first
      | refine s_flat rfl rfl rfl rfl rfl rfl ?_
      | refine s_read rfl rfl rfl rfl (by simp only [Kind.ne, kLd, Heap.row, V.cells]; rfl) ?_
      | refine s_skip rfl ?_)
    | with_reducible refine s_nil ?_
    | with_reducible refine t_normal ?_
    | with_reducible refine w_seq ?_
    | with_reducible refine w_reg ?_
    | with_reducible refine w_block ?_
    | with_reducible refine w_skip ?_
    | with_reducible refine b_normal ?_
    | ((with_reducible refine is_cond ?_); first
      | refine w_true rfl ?_
      | refine w_false rfl ?_)
    | with_reducible refine w_ret ?_
    | with_reducible refine t_ret ?_
    | with_reducible refine b_ret ?_
    | with_reducible refine w_exit ?_
    | with_reducible refine t_exit ?_
    | with_reducible refine b_here ?_
    | with_reducible refine b_on (by decide) ?_)
  refine w_loop (fun m e H => ∃ i : Nat, i + m = k ∧ lk e 9 = some (ni i) ∧ lk e 5 = some (.ptr (some (c, 0))) ∧ Cold k c nb H) k ⟨0, by omega, rfl, by simp [lk, putE, k5], hc⟩ ?_
  rintro m e H ⟨i, hi, k9, k5, hc⟩
  refine w_seq (w_seq (w_reg ?_))
  refine s_val rfl (vs := [ni i]) (v := ni i) (by simp only [evs, ev, k9]) rfl rfl rfl ?_
  refine s_val rfl (vs := [.ptr (some (c, 0))]) (v := .ptr (some (c, 0))) (by simp [evs, ev, lk, putE, k5]) rfl rfl rfl ?_
  refine s_call0 rfl rfl ((c20 C hc.idle).mono ?_)
  rintro v H' ⟨rfl, rfl⟩
  by_cases hik : i < k
  · have d : decide ((i : Int) < (k : Int)) = true := decide_eq_true (by omega)
    refine s_val (v := .bool true) rfl rfl rfl rfl (by show some (Eff.val (V.bool (decide ((i : Int) < (k : Int))))) = _; rw [d]) ?_
    repeat (first
      | ((with_reducible refine is_cons ?_); first
        | refine s_flat rfl rfl rfl rfl rfl rfl ?_
        | refine s_read rfl rfl rfl rfl (by simp only [Kind.ne, kLd, Heap.row, V.cells]; rfl) ?_
        | refine s_skip rfl ?_)
      | with_reducible refine s_nil ?_
      | with_reducible refine t_normal ?_
      | with_reducible refine w_seq ?_
      | with_reducible refine w_reg ?_
      | with_reducible refine w_block ?_
      | with_reducible refine w_skip ?_
      | with_reducible refine b_normal ?_
      | ((with_reducible refine is_cond ?_); first
        | refine w_true rfl ?_
        | refine w_false rfl ?_)
      | with_reducible refine w_ret ?_
      | with_reducible refine t_ret ?_
      | with_reducible refine b_ret ?_
      | with_reducible refine w_exit ?_
      | with_reducible refine t_exit ?_
      | with_reducible refine b_here ?_
      | with_reducible refine b_on (by decide) ?_)
    refine s_val rfl (vs := [.ptr (some (c, 0))]) (v := .ptr (some (c, 0))) (by simp [evs, ev, lk, putE, k5]) rfl rfl rfl ?_
    refine s_val rfl (vs := [ni i]) (v := ni i) (by simp [evs, ev, lk, putE, k9]) rfl rfl rfl ?_
    refine s_call0 rfl rfl ((c22_cold C hc i hik).mono ?_)
    rintro v H' ⟨⟨x, rfl, hst⟩, rfl⟩
    repeat (first
      | ((with_reducible refine is_cons ?_); first
        | refine s_flat rfl rfl rfl rfl rfl rfl ?_
        | refine s_read rfl rfl rfl rfl (by simp only [Kind.ne, kLd, Heap.row, V.cells]; rfl) ?_
        | refine s_skip rfl ?_)
      | with_reducible refine s_nil ?_
      | with_reducible refine t_normal ?_
      | with_reducible refine w_seq ?_
      | with_reducible refine w_reg ?_
      | with_reducible refine w_block ?_
      | with_reducible refine w_skip ?_
      | with_reducible refine b_normal ?_
      | ((with_reducible refine is_cond ?_); first
        | refine w_true rfl ?_
        | refine w_false rfl ?_)
      | with_reducible refine w_ret ?_
      | with_reducible refine t_ret ?_
      | with_reducible refine b_ret ?_
      | with_reducible refine w_exit ?_
      | with_reducible refine t_exit ?_
      | with_reducible refine b_here ?_
      | with_reducible refine b_on (by decide) ?_)
    refine s_call0 rfl rfl ((c23 C hst).mono ?_)
    rintro v H1 ⟨rfl, g1⟩
    repeat (first
      | ((with_reducible refine is_cons ?_); first
        | refine s_flat rfl rfl rfl rfl rfl rfl ?_
        | refine s_read rfl rfl rfl rfl (by simp only [Kind.ne, kLd, Heap.row, V.cells]; rfl) ?_
        | refine s_skip rfl ?_)
      | with_reducible refine s_nil ?_
      | with_reducible refine t_normal ?_
      | with_reducible refine w_seq ?_
      | with_reducible refine w_reg ?_
      | with_reducible refine w_block ?_
      | with_reducible refine w_skip ?_
      | with_reducible refine b_normal ?_
      | ((with_reducible refine is_cond ?_); first
        | refine w_true rfl ?_
        | refine w_false rfl ?_)
      | with_reducible refine w_ret ?_
      | with_reducible refine t_ret ?_
      | with_reducible refine b_ret ?_
      | with_reducible refine w_exit ?_
      | with_reducible refine t_exit ?_
      | with_reducible refine b_here ?_
      | with_reducible refine b_on (by decide) ?_)
    refine s_call0 rfl rfl ((c14 C (hst.grow g1)).mono ?_)
    rintro v H2 ⟨rfl, g2⟩
    repeat (first
      | ((with_reducible refine is_cons ?_); first
        | refine s_flat rfl rfl rfl rfl rfl rfl ?_
        | refine s_read rfl rfl rfl rfl (by simp only [Kind.ne, kLd, Heap.row, V.cells]; rfl) ?_
        | refine s_skip rfl ?_)
      | with_reducible refine s_nil ?_
      | with_reducible refine t_normal ?_
      | with_reducible refine w_seq ?_
      | with_reducible refine w_reg ?_
      | with_reducible refine w_block ?_
      | with_reducible refine w_skip ?_
      | with_reducible refine b_normal ?_
      | ((with_reducible refine is_cond ?_); first
        | refine w_true rfl ?_
        | refine w_false rfl ?_)
      | with_reducible refine w_ret ?_
      | with_reducible refine t_ret ?_
      | with_reducible refine b_ret ?_
      | with_reducible refine w_exit ?_
      | with_reducible refine t_exit ?_
      | with_reducible refine b_here ?_
      | with_reducible refine b_on (by decide) ?_)
    refine s_val rfl (vs := [ni i]) (v := ni i) (by simp [evs, ev, lk, putE, k9]) rfl rfl rfl ?_
    have hp := hc.idle.pos
    refine s_val rfl rfl rfl rfl (v := ni ((i + 1 : Nat) : Int)) (by
      show some (Eff.val (V.int .i64 (IntKind.i64.wrap ((i : Int) + 1)))) = _
      rw [wrap_id (by omega) (by omega)]; rfl) ?_
    repeat (first
      | ((with_reducible refine is_cons ?_); first
        | refine s_flat rfl rfl rfl rfl rfl rfl ?_
        | refine s_read rfl rfl rfl rfl (by simp only [Kind.ne, kLd, Heap.row, V.cells]; rfl) ?_
        | refine s_skip rfl ?_)
      | with_reducible refine s_nil ?_
      | with_reducible refine t_normal ?_
      | with_reducible refine w_seq ?_
      | with_reducible refine w_reg ?_
      | with_reducible refine w_block ?_
      | with_reducible refine w_skip ?_
      | with_reducible refine b_normal ?_
      | ((with_reducible refine is_cond ?_); first
        | refine w_true rfl ?_
        | refine w_false rfl ?_)
      | with_reducible refine w_ret ?_
      | with_reducible refine t_ret ?_
      | with_reducible refine b_ret ?_
      | with_reducible refine w_exit ?_
      | with_reducible refine t_exit ?_
      | with_reducible refine b_here ?_
      | with_reducible refine b_on (by decide) ?_)
    exact ⟨m - 1, by omega, i + 1, by omega, rfl, by simp [lk, putE, k5], hc.grow (g1.trans g2)⟩
  · have d : decide ((i : Int) < (k : Int)) = false := decide_eq_false (by omega)
    refine s_val (v := .bool false) rfl rfl rfl rfl (by show some (Eff.val (V.bool (decide ((i : Int) < (k : Int))))) = _; rw [d]) ?_
    repeat (first
      | ((with_reducible refine is_cons ?_); first
        | refine s_flat rfl rfl rfl rfl rfl rfl ?_
        | refine s_read rfl rfl rfl rfl (by simp only [Kind.ne, kLd, Heap.row, V.cells]; rfl) ?_
        | refine s_skip rfl ?_)
      | with_reducible refine s_nil ?_
      | with_reducible refine t_normal ?_
      | with_reducible refine w_seq ?_
      | with_reducible refine w_reg ?_
      | with_reducible refine w_block ?_
      | with_reducible refine w_skip ?_
      | with_reducible refine b_normal ?_
      | ((with_reducible refine is_cond ?_); first
        | refine w_true rfl ?_
        | refine w_false rfl ?_)
      | with_reducible refine w_ret ?_
      | with_reducible refine t_ret ?_
      | with_reducible refine b_ret ?_
      | with_reducible refine w_exit ?_
      | with_reducible refine t_exit ?_
      | with_reducible refine b_here ?_
      | with_reducible refine b_on (by decide) ?_)
    refine s_val rfl (vs := [.ptr (some (c, 0))]) (v := .ptr (some (c, 0))) (by simp [evs, ev, lk, putE, k5]) rfl rfl rfl ?_
    refine s_call0 rfl rfl ((c24 C hc.idle).mono ?_)
    rintro v H1 ⟨rfl, g1⟩
    repeat (first
      | ((with_reducible refine is_cons ?_); first
        | refine s_val rfl rfl rfl rfl rfl ?_
        | refine s_read rfl rfl rfl rfl (by simp only [Kind.ne, kLd, Heap.row, V.cells]; rfl) ?_
        | refine s_skip rfl ?_)
      | with_reducible refine s_nil ?_
      | with_reducible refine t_normal ?_
      | with_reducible refine w_seq ?_
      | with_reducible refine w_reg ?_
      | with_reducible refine w_block ?_
      | with_reducible refine w_skip ?_
      | with_reducible refine b_normal ?_
      | ((with_reducible refine is_cond ?_); first
        | refine w_true rfl ?_
        | refine w_false rfl ?_)
      | with_reducible refine w_ret ?_
      | with_reducible refine t_ret ?_
      | with_reducible refine b_ret ?_
      | with_reducible refine w_exit ?_
      | with_reducible refine t_exit ?_
      | with_reducible refine b_here ?_
      | with_reducible refine b_on (by decide) ?_)
    refine s_val rfl (vs := [.ptr (some (c, 0))]) (v := .ptr (some (c, 0))) (by simp [evs, ev, lk, putE, k5]) rfl rfl rfl ?_
    refine s_call0 rfl rfl ((c25 C (hc.idle.grow g1)).mono ?_)
    rintro v H2 ⟨rfl, g2⟩
    repeat (first
      | ((with_reducible refine is_cons ?_); first
        | refine s_val rfl rfl rfl rfl rfl ?_
        | refine s_read rfl rfl rfl rfl (by simp only [Kind.ne, kLd, Heap.row, V.cells]; rfl) ?_
        | refine s_skip rfl ?_)
      | with_reducible refine s_nil ?_
      | with_reducible refine t_normal ?_
      | with_reducible refine w_seq ?_
      | with_reducible refine w_reg ?_
      | with_reducible refine w_block ?_
      | with_reducible refine w_skip ?_
      | with_reducible refine b_normal ?_
      | ((with_reducible refine is_cond ?_); first
        | refine w_true rfl ?_
        | refine w_false rfl ?_)
      | with_reducible refine w_ret ?_
      | with_reducible refine t_ret ?_
      | with_reducible refine b_ret ?_
      | with_reducible refine w_exit ?_
      | with_reducible refine t_exit ?_
      | with_reducible refine b_here ?_
      | with_reducible refine b_on (by decide) ?_)
    refine s_call0 rfl rfl ((hR _).mono ?_)
    rintro v H3 ⟨rfl, rfl⟩
    repeat (first
      | ((with_reducible refine is_cons ?_); first
        | refine s_val rfl rfl rfl rfl rfl ?_
        | refine s_read rfl rfl rfl rfl (by simp only [Kind.ne, kLd, Heap.row, V.cells]; rfl) ?_
        | refine s_skip rfl ?_)
      | with_reducible refine s_nil ?_
      | with_reducible refine t_normal ?_
      | with_reducible refine w_seq ?_
      | with_reducible refine w_reg ?_
      | with_reducible refine w_block ?_
      | with_reducible refine w_skip ?_
      | with_reducible refine b_normal ?_
      | ((with_reducible refine is_cond ?_); first
        | refine w_true rfl ?_
        | refine w_false rfl ?_)
      | with_reducible refine w_ret ?_
      | with_reducible refine t_ret ?_
      | with_reducible refine b_ret ?_
      | with_reducible refine w_exit ?_
      | with_reducible refine t_exit ?_
      | with_reducible refine b_here ?_
      | with_reducible refine b_on (by decide) ?_)
    exact ⟨_, rfl, rfl⟩

set_option maxHeartbeats 2000000 in
theorem c4 (hN : ∀ k : Nat, (k = 3 ∨ k = 5 ∨ k = 7) → ∀ H, CallT P 18 [ni k] H fun v H' => ∃ c nb, v = .tuple [.ptr (some (c, 0)), ni 0] ∧ Cold k c nb H' ∧ Grow H H') (hR : ∀ H, CallT P 26 [] H fun v H' => v = .bool true ∧ H' = H)
    (n : Int) (p : Option (Nat × Nat)) (rows : List (List V)) (hp : p = none ∧ rows = [] ∨ p = some (0, 0)) (hrow : ∀ r ∈ rows, FitsA shStep r) (hlen : rows.length ≤ maxLen) :
    CallT P 4 [ni n, .slice p rows.length false 12] (argH 12 rows.flatten) fun v _ => v = .bool true := by
  have hrk : ∀ r ∈ rows, r.length = 12 := fun r hr => (hrow r hr).1
  have hread : ∀ (i : Nat) (r : List V), rows[i]? = some r → (argH 12 rows.flatten).row 0 (i * 12) 12 = some r := by
    intro i r hr
    have hil : i < rows.length := (List.getElem?_eq_some_iff.1 hr).1
    have hne : rows.flatten ≠ [] := by
      intro h
      have := flatten_len rows hrk
      rw [h] at this
      simp at this
      omega
    have hb : (argH 12 rows.flatten).blk 0 = .cells 12 true rows.flatten := by unfold argH; simp [hne]
    have hr12 : r.length = 12 := hrk r (List.mem_of_getElem? hr)
    refine row_some (by decide) hb ?_ hr12
    apply List.ext_getElem?
    intro q
    by_cases hq : q < 12
    · rw [List.getElem?_take_of_lt hq, List.getElem?_drop, flatten_get (by decide) rows _ hrk]
      have h1 : (i * 12 + q) / 12 = i := by omega
      have h2 : (i * 12 + q) % 12 = q := by omega
      rw [h1, h2, hr]
      rfl
    · rw [List.getElem?_eq_none (by rw [List.length_take]; omega), List.getElem?_eq_none (by omega)]
  refine callT_fun C.hm C.m4 ?_
  show acwp P ac4 Q4 _ _
  unfold ac4
  repeat (first
    | ((with_reducible refine is_cons ?_); first
      | refine s_flat rfl rfl rfl rfl rfl rfl ?_
      | refine s_read rfl rfl rfl rfl (by simp only [Kind.ne, kLd, Heap.row, V.cells]; rfl) ?_
      | refine s_skip rfl ?_)
    | with_reducible refine s_nil ?_
    | with_reducible refine t_normal ?_
    | with_reducible refine w_seq ?_
    | with_reducible refine w_reg ?_
    | with_reducible refine w_block ?_
    | with_reducible refine w_skip ?_
    | with_reducible refine b_normal ?_
    | ((with_reducible refine is_cond ?_); first
      | refine w_true rfl ?_
      | refine w_false rfl ?_)
    | with_reducible refine w_ret ?_
    | with_reducible refine t_ret ?_
    | with_reducible refine b_ret ?_
    | with_reducible refine w_exit ?_
    | with_reducible refine t_exit ?_
    | with_reducible refine b_here ?_
    | with_reducible refine b_on (by decide) ?_)
  refine s_new rfl rfl rfl rfl rfl ?_
  repeat (first
    | ((with_reducible refine is_cons ?_); first
      | refine s_flat rfl rfl rfl rfl rfl rfl ?_
      | refine s_read rfl rfl rfl rfl (by simp only [Kind.ne, kLd, Heap.row, V.cells]; rfl) ?_
      | refine s_skip rfl ?_)
    | with_reducible refine s_nil ?_
    | with_reducible refine t_normal ?_
    | with_reducible refine w_seq ?_
    | with_reducible refine w_reg ?_
    | with_reducible refine w_block ?_
    | with_reducible refine w_skip ?_
    | with_reducible refine b_normal ?_
    | ((with_reducible refine is_cond ?_); first
      | refine w_true rfl ?_
      | refine w_false rfl ?_)
    | with_reducible refine w_ret ?_
    | with_reducible refine t_ret ?_
    | with_reducible refine b_ret ?_
    | with_reducible refine w_exit ?_
    | with_reducible refine t_exit ?_
    | with_reducible refine b_here ?_
    | with_reducible refine b_on (by decide) ?_)
  refine s_call0 rfl rfl ((c11 C n 2 (by omega) _).mono ?_)
  rintro v H' ⟨⟨j, hj, rfl⟩, rfl⟩
  obtain ⟨k, hk, hkj⟩ : ∃ k : Nat, (k = 3 ∨ k = 5 ∨ k = 7) ∧ [ni 3, ni 5, ni 7][j]? = some (ni k) := by
    match j, hj with
    | 0, _ => exact ⟨3, by simp, rfl⟩
    | 1, _ => exact ⟨5, by simp, rfl⟩
    | 2, _ => exact ⟨7, by simp, rfl⟩
  refine s_val (v := .ptr (some (2, j))) rfl rfl rfl rfl (by
    show kIaS 1 [.slice (some (2, 0)) 3 true 1, ni j] = _
    simp only [ni, kIaS]
    rw [if_pos ⟨by omega, by omega⟩]
    simp) ?_
  refine s_read (v := ni k) rfl rfl rfl rfl (by
    have hb := push_new (argH 12 rows.flatten) (.cells 1 false [ni 3, ni 5, ni 7])
    simp only [Kind.ne, kLd]
    erw [hb]
    simp only [hkj]
    rfl) ?_
  refine s_call0 rfl rfl ((hN k hk _).mono ?_)
  rintro v H1 ⟨c, nb, rfl, hcold, g1⟩
  have g0 : Grow (argH 12 rows.flatten) H1 := (((Grow.refl _).push _).trans g1)
  have hk0 : 0 < k := by omega
  repeat (first
    | ((with_reducible refine is_cons ?_); first
      | refine s_val rfl rfl rfl rfl rfl ?_
      | refine s_read rfl rfl rfl rfl (by simp only [Kind.ne, kLd, Heap.row, V.cells]; rfl) ?_
      | refine s_skip rfl ?_)
    | with_reducible refine s_nil ?_
    | with_reducible refine t_normal ?_
    | with_reducible refine w_seq ?_
    | with_reducible refine w_reg ?_
    | with_reducible refine w_block ?_
    | with_reducible refine w_skip ?_
    | with_reducible refine b_normal ?_
    | ((with_reducible refine is_cond ?_); first
      | refine w_true rfl ?_
      | refine w_false rfl ?_)
    | with_reducible refine w_ret ?_
    | with_reducible refine t_ret ?_
    | with_reducible refine b_ret ?_
    | with_reducible refine w_exit ?_
    | with_reducible refine t_exit ?_
    | with_reducible refine b_here ?_
    | with_reducible refine b_on (by decide) ?_)
  refine w_loop (fun m e H => ∃ i : Nat, i + m = 40 ∧ lk e 7 = some (ni i) ∧ lk e 1 = some (.slice p rows.length false 12) ∧ lk e 5 = some (.ptr (some (c, 0))) ∧ Cold k c nb H ∧ Grow (argH 12 rows.flatten) H) 40 ⟨0, rfl, rfl, rfl, rfl, hcold, g0⟩ ?_
  rintro m e H ⟨i, him, k7, k1, k5, hc, hg⟩
  -- what is behind a round
  have hnext : ∀ e' H', lk e' 7 = some (ni i) → lk e' 1 = some (.slice p rows.length false 12) → lk e' 5 = some (.ptr (some (c, 0))) → Grow H H' → i < 40 →
      acwp P (.reg [⟨0, (some 34), none, .mov, [.t 7], []⟩, ⟨1, (some 35), none, (.bin .add), [.t 34, .c (.int .i64 (.ofNat (nat_lit 1)))], []⟩, ⟨2, (some 7), none, .mov, [.t 35], []⟩])
        (AEx.then (fun e H => ∃ m', m' < m ∧ ∃ i : Nat, i + m' = 40 ∧ lk e 7 = some (ni i) ∧ lk e 1 = some (.slice p rows.length false 12) ∧ lk e 5 = some (.ptr (some (c, 0))) ∧ Cold k c nb H ∧ Grow (argH 12 rows.flatten) H)
          (AEx.inBlock 0 (AEx.then (acwp P ac4t Q4) Q4))) e' H' := by
    intro e' H' a7 a1 a5 g hi40
    refine w_reg ?_
    refine s_val rfl (vs := [ni i]) (v := ni i) (by simp only [evs, ev, a7]) rfl rfl rfl ?_
    refine s_val rfl rfl rfl rfl (v := ni ((i + 1 : Nat) : Int)) (by
      show some (Eff.val (V.int .i64 (IntKind.i64.wrap ((i : Int) + 1)))) = _
      rw [wrap_id (by omega) (by omega)]; rfl) ?_
    repeat (first
      | ((with_reducible refine is_cons ?_); first
        | refine s_flat rfl rfl rfl rfl rfl rfl ?_
        | refine s_read rfl rfl rfl rfl (by simp only [Kind.ne, kLd, Heap.row, V.cells]; rfl) ?_
        | refine s_skip rfl ?_)
      | with_reducible refine s_nil ?_
      | with_reducible refine t_normal ?_
      | with_reducible refine w_seq ?_
      | with_reducible refine w_reg ?_
      | with_reducible refine w_block ?_
      | with_reducible refine w_skip ?_
      | with_reducible refine b_normal ?_
      | ((with_reducible refine is_cond ?_); first
        | refine w_true rfl ?_
        | refine w_false rfl ?_)
      | with_reducible refine w_ret ?_
      | with_reducible refine t_ret ?_
      | with_reducible refine b_ret ?_
      | with_reducible refine w_exit ?_
      | with_reducible refine t_exit ?_
      | with_reducible refine b_here ?_
      | with_reducible refine b_on (by decide) ?_)
    exact ⟨m - 1, by omega, i + 1, by omega, rfl, by simp [lk, putE, a1], by simp [lk, putE, a5], hc.grow g, hg.trans g⟩
  refine w_seq (w_seq (w_reg ?_))
  refine s_val rfl (vs := [ni i]) (v := ni i) (by simp only [evs, ev, k7]) rfl rfl rfl ?_
  refine s_val rfl (vs := [.slice p rows.length false 12]) (v := .slice p rows.length false 12) (by simp [evs, ev, lk, putE, k1]) rfl rfl rfl ?_
  refine s_val rfl rfl (v := ni rows.length) rfl rfl rfl ?_
  by_cases hil : i < rows.length
  · have d : decide ((i : Int) < (rows.length : Int)) = true := decide_eq_true (by omega)
    refine s_val (v := .bool true) rfl rfl rfl rfl (by show some (Eff.val (V.bool (decide ((i : Int) < (rows.length : Int))))) = _; rw [d]) ?_
    repeat (first
      | ((with_reducible refine is_cons ?_); first
        | refine s_flat rfl rfl rfl rfl rfl rfl ?_
        | refine s_read rfl rfl rfl rfl (by simp only [Kind.ne, kLd, Heap.row, V.cells]; rfl) ?_
        | refine s_skip rfl ?_)
      | with_reducible refine s_nil ?_
      | with_reducible refine t_normal ?_
      | with_reducible refine w_seq ?_
      | with_reducible refine w_reg ?_
      | with_reducible refine w_block ?_
      | with_reducible refine w_skip ?_
      | with_reducible refine b_normal ?_
      | ((with_reducible refine is_cond ?_); first
        | refine w_true rfl ?_
        | refine w_false rfl ?_)
      | with_reducible refine w_ret ?_
      | with_reducible refine t_ret ?_
      | with_reducible refine b_ret ?_
      | with_reducible refine w_exit ?_
      | with_reducible refine t_exit ?_
      | with_reducible refine b_here ?_
      | with_reducible refine b_on (by decide) ?_)
    refine s_val rfl (vs := [ni i]) (v := ni i) (by simp [evs, ev, lk, putE, k7]) rfl rfl rfl ?_
    by_cases h40 : i < 40
    · have d2 : decide ((i : Int) < 40) = true := decide_eq_true (by omega)
      refine s_val (v := .bool true) rfl rfl rfl rfl (by show some (Eff.val (V.bool (decide ((i : Int) < 40)))) = _; rw [d2]) ?_
      repeat (first
        | ((with_reducible refine is_cons ?_); first
          | refine s_flat rfl rfl rfl rfl rfl rfl ?_
          | refine s_read rfl rfl rfl rfl (by simp only [Kind.ne, kLd, Heap.row, V.cells]; rfl) ?_
          | refine s_skip rfl ?_)
        | with_reducible refine s_nil ?_
        | with_reducible refine t_normal ?_
        | with_reducible refine w_seq ?_
        | with_reducible refine w_reg ?_
        | with_reducible refine w_block ?_
        | with_reducible refine w_skip ?_
        | with_reducible refine b_normal ?_
        | ((with_reducible refine is_cond ?_); first
          | refine w_true rfl ?_
          | refine w_false rfl ?_)
        | with_reducible refine w_ret ?_
        | with_reducible refine t_ret ?_
        | with_reducible refine b_ret ?_
        | with_reducible refine w_exit ?_
        | with_reducible refine t_exit ?_
        | with_reducible refine b_here ?_
        | with_reducible refine b_on (by decide) ?_)
      obtain rfl : p = some (0, 0) := by
        rcases hp with ⟨_, h⟩ | h
        · rw [h] at hil; simp at hil
        · exact h
      refine s_val rfl (vs := [.slice (some (0, 0)) rows.length false 12]) (v := .slice (some (0, 0)) rows.length false 12) (by simp [evs, ev, lk, putE, k1]) rfl rfl rfl ?_
      refine s_val rfl (vs := [ni i]) (v := ni i) (by simp [evs, ev, lk, putE, k7]) rfl rfl rfl ?_
      refine s_val (v := .ptr (some (0, i * 12))) rfl rfl rfl rfl (by
        show kIaS 12 [.slice (some (0, 0)) rows.length false 12, ni i] = _
        simp only [ni, kIaS]
        rw [if_pos ⟨by omega, by omega⟩]
        simp) ?_
      obtain ⟨r, hr⟩ : ∃ r, rows[i]? = some r := ⟨_, List.getElem?_eq_getElem hil⟩
      have hrd := hread i r hr
      obtain ⟨kd, n', cnt, cl, ck, c2, c3, k1', k2', k3', k4', pp, len, es, rfl⟩ := step_row (hrow r (List.mem_of_getElem? hr))
      have hrd' : H.row 0 (i * 12) 12 = some (srow kd n' cnt cl ck c2 c3 k1' k2' k3' k4' (.slice pp len false es)) := by
        unfold Heap.row at hrd ⊢
        rw [hg.old 0 (by show 0 < 2; omega)]
        exact hrd
      refine s_read rfl rfl rfl rfl (kLd_row hrd') ?_
      refine s_new rfl rfl rfl rfl rfl ?_
      refine s_ef0 rfl rfl rfl (ef_stc (push_new _ _) rfl rfl (by simp [srow, V.cells])) ?_
      obtain ⟨H2, hH2⟩ : ∃ X, X = (H.push (.cells 0 false [ni 0, ni 0, ni 0, ni 0, ni 0, ni 0, ni 0, .str [], .str [], .str [], .str [], .slice none 0 true 0])).set H.next (.cells 0 false (srow kd n' cnt cl ck c2 c3 k1' k2' k3' k4' (.slice pp len false es))) := ⟨_, rfl⟩
      have g2 : Grow H H2 := by rw [hH2]; exact ((Grow.refl H).push _).set (Nat.le_refl _) _
      have hs2 : H2.blk H.next = .cells 0 false (srow kd n' cnt cl ck c2 c3 k1' k2' k3' k4' (.slice pp len false es)) := by rw [hH2]; exact set_same _ _ _
      have hn2 : H.next < H2.next := by rw [hH2]; show H.next < H.next + 1; omega
      show cwp P [] _ ((H.push (.cells 0 false [ni 0, ni 0, ni 0, ni 0, ni 0, ni 0, ni 0, .str [], .str [], .str [], .str [], .slice none 0 true 0])).set H.next (.cells 0 false (srow kd n' cnt cl ck c2 c3 k1' k2' k3' k4' (.slice pp len false es)))) _ _
      rw [← hH2]
      repeat (first
        | ((with_reducible refine is_cons ?_); first
          | refine s_flat rfl rfl rfl rfl rfl rfl ?_
          | refine s_read rfl rfl rfl rfl (by simp only [Kind.ne, kLd, Heap.row, V.cells]; rfl) ?_
          | refine s_skip rfl ?_)
        | with_reducible refine s_nil ?_
        | with_reducible refine t_normal ?_
        | with_reducible refine w_seq ?_
        | with_reducible refine w_reg ?_
        | with_reducible refine w_block ?_
        | with_reducible refine w_skip ?_
        | with_reducible refine b_normal ?_
        | ((with_reducible refine is_cond ?_); first
          | refine w_true rfl ?_
          | refine w_false rfl ?_)
        | with_reducible refine w_ret ?_
        | with_reducible refine t_ret ?_
        | with_reducible refine b_ret ?_
        | with_reducible refine w_exit ?_
        | with_reducible refine t_exit ?_
        | with_reducible refine b_here ?_
        | with_reducible refine b_on (by decide) ?_)
      refine s_read rfl rfl rfl rfl (v := .agg (srow kd n' cnt cl ck c2 c3 k1' k2' k3' k4' (.slice pp len false es))) (kLd_row (row_some (by decide) hs2 rfl rfl)) ?_
      refine s_call0 rfl rfl ((c19 C kd n' cnt cl ck c2 c3 k1' k2' k3' k4' pp len false es H2).mono ?_)
      rintro v H3 ⟨⟨t, rfl⟩, g3⟩
      have hs3 := (g3.old _ hn2).trans hs2
      have hc3 := hc.grow (g2.trans g3)
      cases t with
      | false =>
        repeat (first
          | ((with_reducible refine is_cons ?_); first
            | refine s_val rfl rfl rfl rfl rfl ?_
            | refine s_read rfl rfl rfl rfl (by simp only [Kind.ne, kLd, Heap.row, V.cells]; rfl) ?_
            | refine s_skip rfl ?_)
          | with_reducible refine s_nil ?_
          | with_reducible refine t_normal ?_
          | with_reducible refine w_seq ?_
          | with_reducible refine w_reg ?_
          | with_reducible refine w_block ?_
          | with_reducible refine w_skip ?_
          | with_reducible refine b_normal ?_
          | ((with_reducible refine is_cond ?_); first
            | refine w_true rfl ?_
            | refine w_false rfl ?_)
          | with_reducible refine w_ret ?_
          | with_reducible refine t_ret ?_
          | with_reducible refine b_ret ?_
          | with_reducible refine w_exit ?_
          | with_reducible refine t_exit ?_
          | with_reducible refine b_here ?_
          | with_reducible refine b_on (by decide) ?_)
        exact hnext _ _ (by simp [lk, putE, k7]) (by simp [lk, putE, k1]) (by simp [lk, putE, k5]) (g2.trans g3) h40
      | true =>
        repeat (first
          | ((with_reducible refine is_cons ?_); first
            | refine s_val rfl rfl rfl rfl rfl ?_
            | refine s_read rfl rfl rfl rfl (by simp only [Kind.ne, kLd, Heap.row, V.cells]; rfl) ?_
            | refine s_skip rfl ?_)
          | with_reducible refine s_nil ?_
          | with_reducible refine t_normal ?_
          | with_reducible refine w_seq ?_
          | with_reducible refine w_reg ?_
          | with_reducible refine w_block ?_
          | with_reducible refine w_skip ?_
          | with_reducible refine b_normal ?_
          | ((with_reducible refine is_cond ?_); first
            | refine w_true rfl ?_
            | refine w_false rfl ?_)
          | with_reducible refine w_ret ?_
          | with_reducible refine t_ret ?_
          | with_reducible refine b_ret ?_
          | with_reducible refine w_exit ?_
          | with_reducible refine t_exit ?_
          | with_reducible refine b_here ?_
          | with_reducible refine b_on (by decide) ?_)
        refine w_seq (part_switch C (sid := H.next) (by simp [lk, putE, k5]) (by simp [lk, putE]) hs3 hc3.idle hk0 (by have := hc.idle.lt.1; omega) (by have := hc.idle.lt.2; omega) ?_)
        intro e' kd' n2 cl' he hv
        have g4 : Grow H (H3.set H.next (.cells 0 false (srow kd' n2 cnt cl' ck c2 c3 k1' k2' k3' k4' (.slice pp len false es)))) := (g2.trans g3).set (Nat.le_refl _) _
        refine t_normal (part_do C (sid := H.next) ((he 5 (by omega)).trans (by simp [lk, putE, k5])) ((he 8 (by omega)).trans (by simp [lk, putE])) (set_same _ _ _) (hc.grow g4).idle hv ?_)
        intro e2 H5 he2 g5
        refine b_normal (t_normal (hnext _ _ ?_ ?_ ?_ (g4.trans g5) h40))
        · rw [he2 7 (by omega), he 7 (by omega)]; simp [lk, putE, k7]
        · rw [he2 1 (by omega), he 1 (by omega)]; simp [lk, putE, k1]
        · rw [he2 5 (by omega), he 5 (by omega)]; simp [lk, putE, k5]
    · have d2 : decide ((i : Int) < 40) = false := decide_eq_false (by omega)
      refine s_val (v := .bool false) rfl rfl rfl rfl (by show some (Eff.val (V.bool (decide ((i : Int) < 40)))) = _; rw [d2]) ?_
      repeat (first
        | ((with_reducible refine is_cons ?_); first
          | refine s_flat rfl rfl rfl rfl rfl rfl ?_
          | refine s_read rfl rfl rfl rfl (by simp only [Kind.ne, kLd, Heap.row, V.cells]; rfl) ?_
          | refine s_skip rfl ?_)
        | with_reducible refine s_nil ?_
        | with_reducible refine t_normal ?_
        | with_reducible refine w_seq ?_
        | with_reducible refine w_reg ?_
        | with_reducible refine w_block ?_
        | with_reducible refine w_skip ?_
        | with_reducible refine b_normal ?_
        | ((with_reducible refine is_cond ?_); first
          | refine w_true rfl ?_
          | refine w_false rfl ?_)
        | with_reducible refine w_ret ?_
        | with_reducible refine t_ret ?_
        | with_reducible refine b_ret ?_
        | with_reducible refine w_exit ?_
        | with_reducible refine t_exit ?_
        | with_reducible refine b_here ?_
        | with_reducible refine b_on (by decide) ?_)
      exact part_tail C hR (by simp [lk, putE, k5]) hc
  · have d : decide ((i : Int) < (rows.length : Int)) = false := decide_eq_false (by omega)
    refine s_val (v := .bool false) rfl rfl rfl rfl (by show some (Eff.val (V.bool (decide ((i : Int) < (rows.length : Int))))) = _; rw [d]) ?_
    repeat (first
      | ((with_reducible refine is_cons ?_); first
        | refine s_flat rfl rfl rfl rfl rfl rfl ?_
        | refine s_read rfl rfl rfl rfl (by simp only [Kind.ne, kLd, Heap.row, V.cells]; rfl) ?_
        | refine s_skip rfl ?_)
      | with_reducible refine s_nil ?_
      | with_reducible refine t_normal ?_
      | with_reducible refine w_seq ?_
      | with_reducible refine w_reg ?_
      | with_reducible refine w_block ?_
      | with_reducible refine w_skip ?_
      | with_reducible refine b_normal ?_
      | ((with_reducible refine is_cond ?_); first
        | refine w_true rfl ?_
        | refine w_false rfl ?_)
      | with_reducible refine w_ret ?_
      | with_reducible refine t_ret ?_
      | with_reducible refine b_ret ?_
      | with_reducible refine w_exit ?_
      | with_reducible refine t_exit ?_
      | with_reducible refine b_here ?_
      | with_reducible refine b_on (by decide) ?_)
    exact part_tail C hR (by simp [lk, putE, k5]) hc
end Go.Cn
