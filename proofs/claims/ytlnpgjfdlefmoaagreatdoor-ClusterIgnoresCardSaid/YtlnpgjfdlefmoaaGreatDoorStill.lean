/- A node that did nothing says so; no letters, no history. -/
import Derived.Test.YtlnpgjfdlefmoaaGreatDoorIdleDo
namespace Go.Cn
set_option linter.unusedVariables false
set_option linter.unusedSimpArgs false

def z7 : List V := [ni 0, ni 0, ni 0, ni 0, ni 0, ni 0, ni 0]

theorem row_some {H : Heap} {id o n : Nat} {es : Nat} {ro : Bool} {cs r : List V} (hn : 0 < n) (hb : H.blk id = .cells es ro cs) (h : (cs.drop o).take n = r) (hl : r.length = n) : H.row id o n = some r := by
  unfold Heap.row
  rw [hb]
  have : o + n ≤ cs.length := by
    have h1 : ((cs.drop o).take n).length = n := by rw [h]; exact hl
    rw [List.length_take, List.length_drop] at h1
    omega
  show (if o + n ≤ cs.length then some ((cs.drop o).take n) else none) = _
  rw [if_pos this, h]

theorem kLd_row {H : Heap} {id o n : Nat} {r : List V} (h : H.row id o n = some r) : kLd H (some n) [.ptr (some (id, o))] = some (.val (.agg r)) := by
  simp only [kLd, h]; rfl

theorem res_row {H : Heap} {e : Env} {t id o n : Nat} {r : List V} (hp : lk e t = some (.ptr (some (id, o)))) (h : H.row id o n = some r) : resOf H e [.cell t (some n)] = some (.agg r) := by
  simp only [resOf, resV, hp, kLd_row h]

theorem set_row0 {H : Heap} {id es n : Nat} {cs r : List V} (hn : 0 < n) (hr : r.length = n) (hc : cs.length = n) : (H.set id (.cells es false (wr cs 0 r))).row id 0 n = some r := by
  have key : ∀ (cs r : List V), r.length = cs.length → wr cs 0 r = r := by
    intro cs
    induction cs with
    | nil => intro r h; rw [List.eq_nil_of_length_eq_zero h]; rfl
    | cons c cs ih =>
      intro r h
      cases r with
      | nil => simp at h
      | cons x r => simp only [wr]; rw [ih r (by simpa using h)]
  refine row_some hn (set_same _ _ _) ?_ hr
  rw [key cs r (by omega), List.drop_zero, ← hr, List.take_length]

/-- A node that did nothing. -/
structure Still (x : Nat) (H : Heap) : Prop where
  ex : ∃ ncs co ccs lg lcs m ck, H.blk x = .cells 0 false ncs ∧ (ncs.drop 55).take 7 = z7 ∧ ncs[4]? = some (.ptr (some (co, 0))) ∧ H.blk co = .cells 0 false ccs ∧ ccs[2]? = some (.ptr (some (lg, 0))) ∧
    H.blk lg = .cells 0 false lcs ∧ lcs[0]? = some (.map (some m)) ∧ (lcs.drop 1).take 7 = z7 ∧ H.blk m = .map [] ck ∧ x < H.next ∧ co < H.next ∧ lg < H.next ∧ m < H.next

theorem Still.grow {x : Nat} {H H' : Heap} (h : Still x H) (g : Grow H H') : Still x H' := by
  obtain ⟨ncs, co, ccs, lg, lcs, m, ck, h1, h2, h3, h4, h5, h6, h7, h8, h9, l1, l2, l3, l4⟩ := h
  exact ⟨ncs, co, ccs, lg, lcs, m, ck, by rw [g.old _ l1]; exact h1, h2, h3, by rw [g.old _ l2]; exact h4, h5, by rw [g.old _ l3]; exact h6, h7, h8, by rw [g.old _ l4]; exact h9,
    Nat.lt_of_lt_of_le l1 g.le, Nat.lt_of_lt_of_le l2 g.le, Nat.lt_of_lt_of_le l3 g.le, Nat.lt_of_lt_of_le l4 g.le⟩

variable {P : Program} (C : CIP P)
include C

theorem c23 {x : Nat} {H : Heap} (h : Still x H) : CallT P 23 [.ptr (some (x, 0))] H fun v H' => v = .agg z7 ∧ Grow H H' := by
  obtain ⟨ncs, co, ccs, lg, lcs, m, ck, h1, h2, h3, h4, h5, h6, h7, h8, h9, l1, l2, l3, l4⟩ := h
  refine callT_fun C.hm C.m23 ?_
  unfold ac23
  refine w_seq (w_reg (s_new rfl rfl rfl rfl rfl ?_))
  have hr : (H.push (.cells 0 false z7)).row x 55 7 = some z7 := row_some (by decide) ((push_old l1).trans h1) h2 rfl
  repeat (first
    | ((with_reducible refine is_cons ?_); first
      | refine s_flat rfl rfl rfl rfl rfl rfl ?_
      | refine s_read rfl rfl rfl rfl (by simp only [Kind.ne, kLd, Heap.row, V.cells]; rfl) ?_
      | refine s_skip rfl ?_)
    | with_reducible refine s_nil ?_
    | with_reducible refine t_normal ?_
    | with_reducible refine w_seq ?_
    | with_reducible refine w_reg ?_
    | with_reducible refine w_block ?_
    | with_reducible refine w_skip ?_
    | with_reducible refine b_normal ?_
    | ((with_reducible refine is_cond ?_); first
      | refine w_true rfl ?_
      | refine w_false rfl ?_)
    | with_reducible refine w_ret ?_
    | with_reducible refine t_ret ?_
    | with_reducible refine b_ret ?_
    | with_reducible refine w_exit ?_
    | with_reducible refine t_exit ?_
    | with_reducible refine b_here ?_
    | with_reducible refine b_on (by decide) ?_)
  refine s_read rfl rfl rfl rfl (kLd_row hr) ?_
  refine s_ef0 rfl rfl rfl (ef_stc (push_new _ _) rfl rfl (by decide)) ?_
  repeat (first
    | ((with_reducible refine is_cons ?_); first
      | refine s_flat rfl rfl rfl rfl rfl rfl ?_
      | refine s_read rfl rfl rfl rfl (by simp only [Kind.ne, kLd, Heap.row, V.cells]; rfl) ?_
      | refine s_skip rfl ?_)
    | with_reducible refine s_nil ?_
    | with_reducible refine t_normal ?_
    | with_reducible refine w_seq ?_
    | with_reducible refine w_reg ?_
    | with_reducible refine w_block ?_
    | with_reducible refine w_skip ?_
    | with_reducible refine b_normal ?_
    | ((with_reducible refine is_cond ?_); first
      | refine w_true rfl ?_
      | refine w_false rfl ?_)
    | with_reducible refine w_ret ?_
    | with_reducible refine t_ret ?_
    | with_reducible refine b_ret ?_
    | with_reducible refine w_exit ?_
    | with_reducible refine t_exit ?_
    | with_reducible refine b_here ?_
    | with_reducible refine b_on (by decide) ?_)
  exact ⟨_, res_row rfl (set_row0 (by decide) rfl rfl), rfl, ((Grow.refl H).push _).set (Nat.le_refl _) _⟩

theorem c125 {lg m ck : Nat} {lcs : List V} {H : Heap} (h6 : H.blk lg = .cells 0 false lcs) (h7 : lcs[0]? = some (.map (some m))) (h8 : (lcs.drop 1).take 7 = z7) (h9 : H.blk m = .map [] ck) (l3 : lg < H.next) (l4 : m < H.next) :
    CallT P 125 [.ptr (some (lg, 0))] H fun v H' => v = .agg z7 ∧ Grow H H' := by
  refine callT_fun C.hm C.m125 ?_
  unfold ac125
  refine w_seq (w_reg (s_new rfl rfl rfl rfl rfl ?_))
  have g1 := (Grow.refl H).push (.cells 0 false z7)
  have hr : (H.push (.cells 0 false z7)).row lg 1 7 = some z7 := row_some (by decide) ((g1.old _ l3).trans h6) h8 rfl
  repeat (first
    | ((with_reducible refine is_cons ?_); first
      | refine s_flat rfl rfl rfl rfl rfl rfl ?_
      | refine s_read rfl rfl rfl rfl (by simp only [Kind.ne, kLd, Heap.row, V.cells]; rfl) ?_
      | refine s_skip rfl ?_)
    | with_reducible refine s_nil ?_
    | with_reducible refine t_normal ?_
    | with_reducible refine w_seq ?_
    | with_reducible refine w_reg ?_
    | with_reducible refine w_block ?_
    | with_reducible refine w_skip ?_
    | with_reducible refine b_normal ?_
    | ((with_reducible refine is_cond ?_); first
      | refine w_true rfl ?_
      | refine w_false rfl ?_)
    | with_reducible refine w_ret ?_
    | with_reducible refine t_ret ?_
    | with_reducible refine b_ret ?_
    | with_reducible refine w_exit ?_
    | with_reducible refine t_exit ?_
    | with_reducible refine b_here ?_
    | with_reducible refine b_on (by decide) ?_)
  refine s_read rfl rfl rfl rfl (kLd_row hr) ?_
  refine s_new rfl rfl rfl rfl rfl ?_
  refine s_ef0 rfl rfl rfl (ef_stc (push_new _ _) rfl rfl (by decide)) ?_
  obtain ⟨H2, hH2⟩ : ∃ X, X = ((H.push (.cells 0 false z7)).push (.cells 0 false z7)).set (H.push (.cells 0 false z7)).next (.cells 0 false (wr z7 0 z7)) := ⟨_, rfl⟩
  have g2 : Grow H H2 := by rw [hH2]; exact (g1.push _).set (by show H.next ≤ H.next + 1; omega) _
  have e1 := (g2.old _ l3).trans h6
  have e2 := (g2.old _ l4).trans h9
  have n2 : H2.next = H.next + 2 := by rw [hH2]; rfl
  have b0 : H2.blk H.next = .cells 0 false z7 := by rw [hH2, set_ne (by show H.next ≠ H.next + 1; omega), push_old (by show H.next < H.next + 1; omega), push_new]
  have b1 : H2.row (H.next + 1) 0 7 = some z7 := by rw [hH2]; exact set_row0 (by decide) rfl rfl
  show cwp P [] _ (((H.push (.cells 0 false z7)).push (.cells 0 false z7)).set (H.push (.cells 0 false z7)).next (.cells 0 false (wr z7 0 z7))) _ _
  rw [← hH2]
  repeat (first
    | ((with_reducible refine is_cons ?_); first
      | refine s_flat rfl rfl rfl rfl rfl rfl ?_
      | refine s_read rfl rfl rfl rfl (by simp only [Kind.ne, kLd, Heap.row, V.cells]; rfl) ?_
      | refine s_skip rfl ?_)
    | with_reducible refine s_nil ?_
    | with_reducible refine t_normal ?_
    | with_reducible refine w_seq ?_
    | with_reducible refine w_reg ?_
    | with_reducible refine w_block ?_
    | with_reducible refine w_skip ?_
    | with_reducible refine b_normal ?_
    | ((with_reducible refine is_cond ?_); first
      | refine w_true rfl ?_
      | refine w_false rfl ?_)
    | with_reducible refine w_ret ?_
    | with_reducible refine t_ret ?_
    | with_reducible refine b_ret ?_
    | with_reducible refine w_exit ?_
    | with_reducible refine t_exit ?_
    | with_reducible refine b_here ?_
    | with_reducible refine b_on (by decide) ?_)
  refine s_read rfl rfl rfl rfl (v := .map (some m)) (by simp only [Kind.ne, kLd, e1, h7]; rfl) ?_
  refine s_rng (B := .iter m ck [] ck) (mk := fun it => .ptr (some (it, 0))) rfl rfl rfl rfl (by simp only [Kind.ne, kRng, e2]) ?_
  repeat (first
    | ((with_reducible refine is_cons ?_); first
      | refine s_flat rfl rfl rfl rfl rfl rfl ?_
      | refine s_read rfl rfl rfl rfl (by simp only [Kind.ne, kLd, Heap.row, V.cells]; rfl) ?_
      | refine s_skip rfl ?_)
    | with_reducible refine s_nil ?_
    | with_reducible refine t_normal ?_
    | with_reducible refine w_seq ?_
    | with_reducible refine w_reg ?_
    | with_reducible refine w_block ?_
    | with_reducible refine w_skip ?_
    | with_reducible refine b_normal ?_
    | ((with_reducible refine is_cond ?_); first
      | refine w_true rfl ?_
      | refine w_false rfl ?_)
    | with_reducible refine w_ret ?_
    | with_reducible refine t_ret ?_
    | with_reducible refine b_ret ?_
    | with_reducible refine w_exit ?_
    | with_reducible refine t_exit ?_
    | with_reducible refine b_here ?_
    | with_reducible refine b_on (by decide) ?_)
  refine w_loop (fun _ e' H' => lk e' 13 = some (.ptr (some (H2.next, 0))) ∧ lk e' 3 = some (.ptr (some (H.next + 1, 0))) ∧ lk e' 2 = some (.ptr (some (H.next, 0))) ∧ H' = H2.push (.iter m ck [] ck)) 0 ⟨rfl, rfl, rfl, rfl⟩ ?_
  rintro n e H' ⟨k13, k3, k2, rfl⟩
  refine w_seq (w_reg (s_nxt0 (it := H2.next) (m := m) (since := ck) (clock := ck) (c2 := ck) rfl (by simp only [evs, ev, k13]) (push_new _ _) ((push_old (by have := g2.le; omega)).trans e2) ?_))
  repeat (first
    | ((with_reducible refine is_cons ?_); first
      | refine s_flat rfl rfl rfl rfl rfl rfl ?_
      | refine s_read rfl rfl rfl rfl (by simp only [Kind.ne, kLd, Heap.row, V.cells]; rfl) ?_
      | refine s_skip rfl ?_)
    | with_reducible refine s_nil ?_
    | with_reducible refine t_normal ?_
    | with_reducible refine w_seq ?_
    | with_reducible refine w_reg ?_
    | with_reducible refine w_block ?_
    | with_reducible refine w_skip ?_
    | with_reducible refine b_normal ?_
    | ((with_reducible refine is_cond ?_); first
      | refine w_true rfl ?_
      | refine w_false rfl ?_)
    | with_reducible refine w_ret ?_
    | with_reducible refine t_ret ?_
    | with_reducible refine b_ret ?_
    | with_reducible refine w_exit ?_
    | with_reducible refine t_exit ?_
    | with_reducible refine b_here ?_
    | with_reducible refine b_on (by decide) ?_)
  have b2 : (H2.push (.iter m ck [] ck)).row (H.next + 1) 0 7 = some z7 := by
    unfold Heap.row at b1 ⊢
    rw [push_old (by omega)]; exact b1
  refine s_read rfl (vs := [.ptr (some (H.next + 1, 0))]) (by simp [evs, ev, lk, putE, k3]) rfl rfl (kLd_row b2) ?_
  refine s_ef0 rfl (vs := [.ptr (some (H.next, 0)), .agg z7]) (by simp [evs, ev, lk, putE, k2]) rfl (ef_stc ((push_old (by omega)).trans b0) rfl rfl (by decide)) ?_
  repeat (first
    | ((with_reducible refine is_cons ?_); first
      | refine s_flat rfl rfl rfl rfl rfl rfl ?_
      | refine s_read rfl rfl rfl rfl (by simp only [Kind.ne, kLd, Heap.row, V.cells]; rfl) ?_
      | refine s_skip rfl ?_)
    | with_reducible refine s_nil ?_
    | with_reducible refine t_normal ?_
    | with_reducible refine w_seq ?_
    | with_reducible refine w_reg ?_
    | with_reducible refine w_block ?_
    | with_reducible refine w_skip ?_
    | with_reducible refine b_normal ?_
    | ((with_reducible refine is_cond ?_); first
      | refine w_true rfl ?_
      | refine w_false rfl ?_)
    | with_reducible refine w_ret ?_
    | with_reducible refine t_ret ?_
    | with_reducible refine b_ret ?_
    | with_reducible refine w_exit ?_
    | with_reducible refine t_exit ?_
    | with_reducible refine b_here ?_
    | with_reducible refine b_on (by decide) ?_)
  refine ⟨_, res_row (by simp [lk, putE, k2]) (set_row0 (by decide) rfl rfl), rfl, (g2.push _).set (Nat.le_refl _) _⟩

theorem c52 {co lg m ck : Nat} {ccs lcs : List V} {H : Heap} (h4 : H.blk co = .cells 0 false ccs) (h5 : ccs[2]? = some (.ptr (some (lg, 0)))) (l2 : co < H.next) (h6 : H.blk lg = .cells 0 false lcs) (h7 : lcs[0]? = some (.map (some m))) (h8 : (lcs.drop 1).take 7 = z7) (h9 : H.blk m = .map [] ck) (l3 : lg < H.next) (l4 : m < H.next) :
    CallT P 52 [.ptr (some (co, 0))] H fun v H' => v = .agg z7 ∧ Grow H H' := by
  refine callT_fun C.hm C.m52 ?_
  unfold ac52
  refine w_seq (w_reg (s_new rfl rfl rfl rfl rfl ?_))
  have g1 := (Grow.refl H).push (.cells 0 false z7)
  have e4 := (g1.old _ l2).trans h4
  repeat (first
    | ((with_reducible refine is_cons ?_); first
      | refine s_flat rfl rfl rfl rfl rfl rfl ?_
      | refine s_read rfl rfl rfl rfl (by simp only [Kind.ne, kLd, Heap.row, V.cells]; rfl) ?_
      | refine s_skip rfl ?_)
    | with_reducible refine s_nil ?_
    | with_reducible refine t_normal ?_
    | with_reducible refine w_seq ?_
    | with_reducible refine w_reg ?_
    | with_reducible refine w_block ?_
    | with_reducible refine w_skip ?_
    | with_reducible refine b_normal ?_
    | ((with_reducible refine is_cond ?_); first
      | refine w_true rfl ?_
      | refine w_false rfl ?_)
    | with_reducible refine w_ret ?_
    | with_reducible refine t_ret ?_
    | with_reducible refine b_ret ?_
    | with_reducible refine w_exit ?_
    | with_reducible refine t_exit ?_
    | with_reducible refine b_here ?_
    | with_reducible refine b_on (by decide) ?_)
  refine s_read rfl rfl rfl rfl (v := .ptr (some (lg, 0))) (by simp only [Kind.ne, kLd]; erw [e4]; simp only [Nat.zero_add, h5]; rfl) ?_
  refine s_call0 rfl rfl ((c125 C ((g1.old _ l3).trans h6) h7 h8 ((g1.old _ l4).trans h9) (Nat.lt_of_lt_of_le l3 g1.le) (Nat.lt_of_lt_of_le l4 g1.le)).mono ?_)
  rintro v H' ⟨rfl, g⟩
  refine s_ef0 rfl rfl rfl (ef_stc ((g.old H.next (by show H.next < H.next + 1; omega)).trans (push_new _ _)) rfl rfl (by decide)) ?_
  repeat (first
    | ((with_reducible refine is_cons ?_); first
      | refine s_flat rfl rfl rfl rfl rfl rfl ?_
      | refine s_read rfl rfl rfl rfl (by simp only [Kind.ne, kLd, Heap.row, V.cells]; rfl) ?_
      | refine s_skip rfl ?_)
    | with_reducible refine s_nil ?_
    | with_reducible refine t_normal ?_
    | with_reducible refine w_seq ?_
    | with_reducible refine w_reg ?_
    | with_reducible refine w_block ?_
    | with_reducible refine w_skip ?_
    | with_reducible refine b_normal ?_
    | ((with_reducible refine is_cond ?_); first
      | refine w_true rfl ?_
      | refine w_false rfl ?_)
    | with_reducible refine w_ret ?_
    | with_reducible refine t_ret ?_
    | with_reducible refine b_ret ?_
    | with_reducible refine w_exit ?_
    | with_reducible refine t_exit ?_
    | with_reducible refine b_here ?_
    | with_reducible refine b_on (by decide) ?_)
  exact ⟨_, res_row rfl (set_row0 (by decide) rfl rfl), rfl, (g1.trans g).set (Nat.le_refl _) _⟩

theorem c14 {x : Nat} {H : Heap} (h : Still x H) : CallT P 14 [.ptr (some (x, 0))] H fun v H' => v = .agg z7 ∧ Grow H H' := by
  obtain ⟨ncs, co, ccs, lg, lcs, m, ck, h1, h2, h3, h4, h5, h6, h7, h8, h9, l1, l2, l3, l4⟩ := h
  refine callT_fun C.hm C.m14 ?_
  unfold ac14
  refine w_seq (w_reg (s_new rfl rfl rfl rfl rfl ?_))
  have g1 := (Grow.refl H).push (.cells 0 false z7)
  have e1 := (g1.old _ l1).trans h1
  repeat (first
    | ((with_reducible refine is_cons ?_); first
      | refine s_flat rfl rfl rfl rfl rfl rfl ?_
      | refine s_read rfl rfl rfl rfl (by simp only [Kind.ne, kLd, Heap.row, V.cells]; rfl) ?_
      | refine s_skip rfl ?_)
    | with_reducible refine s_nil ?_
    | with_reducible refine t_normal ?_
    | with_reducible refine w_seq ?_
    | with_reducible refine w_reg ?_
    | with_reducible refine w_block ?_
    | with_reducible refine w_skip ?_
    | with_reducible refine b_normal ?_
    | ((with_reducible refine is_cond ?_); first
      | refine w_true rfl ?_
      | refine w_false rfl ?_)
    | with_reducible refine w_ret ?_
    | with_reducible refine t_ret ?_
    | with_reducible refine b_ret ?_
    | with_reducible refine w_exit ?_
    | with_reducible refine t_exit ?_
    | with_reducible refine b_here ?_
    | with_reducible refine b_on (by decide) ?_)
  refine s_read rfl rfl rfl rfl (v := .ptr (some (co, 0))) (by simp only [Kind.ne, kLd]; erw [e1]; simp only [Nat.zero_add, h3]; rfl) ?_
  refine s_call0 rfl rfl ((c52 C ((g1.old _ l2).trans h4) h5 (Nat.lt_of_lt_of_le l2 g1.le) ((g1.old _ l3).trans h6) h7 h8 ((g1.old _ l4).trans h9) (Nat.lt_of_lt_of_le l3 g1.le) (Nat.lt_of_lt_of_le l4 g1.le)).mono ?_)
  rintro v H' ⟨rfl, g⟩
  refine s_ef0 rfl rfl rfl (ef_stc ((g.old H.next (by show H.next < H.next + 1; omega)).trans (push_new _ _)) rfl rfl (by decide)) ?_
  repeat (first
    | ((with_reducible refine is_cons ?_); first
      | refine s_flat rfl rfl rfl rfl rfl rfl ?_
      | refine s_read rfl rfl rfl rfl (by simp only [Kind.ne, kLd, Heap.row, V.cells]; rfl) ?_
      | refine s_skip rfl ?_)
    | with_reducible refine s_nil ?_
    | with_reducible refine t_normal ?_
    | with_reducible refine w_seq ?_
    | with_reducible refine w_reg ?_
    | with_reducible refine w_block ?_
    | with_reducible refine w_skip ?_
    | with_reducible refine b_normal ?_
    | ((with_reducible refine is_cond ?_); first
      | refine w_true rfl ?_
      | refine w_false rfl ?_)
    | with_reducible refine w_ret ?_
    | with_reducible refine t_ret ?_
    | with_reducible refine b_ret ?_
    | with_reducible refine w_exit ?_
    | with_reducible refine t_exit ?_
    | with_reducible refine b_here ?_
    | with_reducible refine b_on (by decide) ?_)
  exact ⟨_, res_row rfl (set_row0 (by decide) rfl rfl), rfl, (g1.trans g).set (Nat.le_refl _) _⟩

theorem c24 {k c nb : Nat} {H : Heap} (h : Idle k c nb H) : CallT P 24 [.ptr (some (c, 0))] H fun v H' => v = .slice none 0 true 0 ∧ Grow H H' := by
  obtain ⟨h0, ⟨v1, f1, e1, v3, v4, h1⟩, _⟩ := h
  have c68 : CallT P 68 [.slice none 0 true 0] H fun v H' => v = .slice none 0 true 0 ∧ Grow H H' := by
    refine callT_fun C.hm C.m68 ?_
    unfold ac68
    repeat (first
      | ((with_reducible refine is_cons ?_); first
        | refine s_flat rfl rfl rfl rfl rfl rfl ?_
        | refine s_read rfl rfl rfl rfl (by simp only [Kind.ne, kLd, Heap.row, V.cells]; rfl) ?_
        | refine s_skip rfl ?_)
      | with_reducible refine s_nil ?_
      | with_reducible refine t_normal ?_
      | with_reducible refine w_seq ?_
      | with_reducible refine w_reg ?_
      | with_reducible refine w_block ?_
      | with_reducible refine w_skip ?_
      | with_reducible refine b_normal ?_
      | ((with_reducible refine is_cond ?_); first
        | refine w_true rfl ?_
        | refine w_false rfl ?_)
      | with_reducible refine w_ret ?_
      | with_reducible refine t_ret ?_
      | with_reducible refine b_ret ?_
      | with_reducible refine w_exit ?_
      | with_reducible refine t_exit ?_
      | with_reducible refine b_here ?_
      | with_reducible refine b_on (by decide) ?_)
    exact ⟨_, rfl, rfl, Grow.refl _⟩
  refine callT_fun C.hm C.m24 ?_
  unfold ac24
  repeat (first
    | ((with_reducible refine is_cons ?_); first
      | refine s_flat rfl rfl rfl rfl rfl rfl ?_
      | refine s_read rfl rfl rfl rfl (by simp only [Kind.ne, kLd, Heap.row, V.cells, h1]; rfl) ?_
      | refine s_skip rfl ?_)
    | with_reducible refine s_nil ?_
    | with_reducible refine t_normal ?_
    | with_reducible refine w_seq ?_
    | with_reducible refine w_reg ?_
    | with_reducible refine w_block ?_
    | with_reducible refine w_skip ?_
    | with_reducible refine b_normal ?_
    | ((with_reducible refine is_cond ?_); first
      | refine w_true rfl ?_
      | refine w_false rfl ?_)
    | with_reducible refine w_ret ?_
    | with_reducible refine t_ret ?_
    | with_reducible refine b_ret ?_
    | with_reducible refine w_exit ?_
    | with_reducible refine t_exit ?_
    | with_reducible refine b_here ?_
    | with_reducible refine b_on (by decide) ?_)
  refine s_call0 rfl rfl (c68.mono ?_)
  rintro v H' ⟨rfl, g⟩
  repeat (first
    | ((with_reducible refine is_cons ?_); first
      | refine s_flat rfl rfl rfl rfl rfl rfl ?_
      | refine s_read rfl rfl rfl rfl (by simp only [Kind.ne, kLd, Heap.row, V.cells]; rfl) ?_
      | refine s_skip rfl ?_)
    | with_reducible refine s_nil ?_
    | with_reducible refine t_normal ?_
    | with_reducible refine w_seq ?_
    | with_reducible refine w_reg ?_
    | with_reducible refine w_block ?_
    | with_reducible refine w_skip ?_
    | with_reducible refine b_normal ?_
    | ((with_reducible refine is_cond ?_); first
      | refine w_true rfl ?_
      | refine w_false rfl ?_)
    | with_reducible refine w_ret ?_
    | with_reducible refine t_ret ?_
    | with_reducible refine b_ret ?_
    | with_reducible refine w_exit ?_
    | with_reducible refine t_exit ?_
    | with_reducible refine b_here ?_
    | with_reducible refine b_on (by decide) ?_)
  exact ⟨_, rfl, rfl, g⟩

theorem c25 {k c nb : Nat} {H : Heap} (h : Idle k c nb H) : CallT P 25 [.ptr (some (c, 0))] H fun v H' => v = .slice none 0 true 0 ∧ Grow H H' := by
  obtain ⟨h0, ⟨v1, f1, e1, v3, v4, h1⟩, _⟩ := h
  have c69 : CallT P 69 [.slice none 0 true 0] H fun v H' => v = .slice none 0 true 0 ∧ Grow H H' := by
    refine callT_fun C.hm C.m69 ?_
    unfold ac69
    repeat (first
      | ((with_reducible refine is_cons ?_); first
        | refine s_flat rfl rfl rfl rfl rfl rfl ?_
        | refine s_read rfl rfl rfl rfl (by simp only [Kind.ne, kLd, Heap.row, V.cells]; rfl) ?_
        | refine s_skip rfl ?_)
      | with_reducible refine s_nil ?_
      | with_reducible refine t_normal ?_
      | with_reducible refine w_seq ?_
      | with_reducible refine w_reg ?_
      | with_reducible refine w_block ?_
      | with_reducible refine w_skip ?_
      | with_reducible refine b_normal ?_
      | ((with_reducible refine is_cond ?_); first
        | refine w_true rfl ?_
        | refine w_false rfl ?_)
      | with_reducible refine w_ret ?_
      | with_reducible refine t_ret ?_
      | with_reducible refine b_ret ?_
      | with_reducible refine w_exit ?_
      | with_reducible refine t_exit ?_
      | with_reducible refine b_here ?_
      | with_reducible refine b_on (by decide) ?_)
    exact ⟨_, rfl, rfl, Grow.refl _⟩
  refine callT_fun C.hm C.m25 ?_
  unfold ac25
  repeat (first
    | ((with_reducible refine is_cons ?_); first
      | refine s_flat rfl rfl rfl rfl rfl rfl ?_
      | refine s_read rfl rfl rfl rfl (by simp only [Kind.ne, kLd, Heap.row, V.cells, h1]; rfl) ?_
      | refine s_skip rfl ?_)
    | with_reducible refine s_nil ?_
    | with_reducible refine t_normal ?_
    | with_reducible refine w_seq ?_
    | with_reducible refine w_reg ?_
    | with_reducible refine w_block ?_
    | with_reducible refine w_skip ?_
    | with_reducible refine b_normal ?_
    | ((with_reducible refine is_cond ?_); first
      | refine w_true rfl ?_
      | refine w_false rfl ?_)
    | with_reducible refine w_ret ?_
    | with_reducible refine t_ret ?_
    | with_reducible refine b_ret ?_
    | with_reducible refine w_exit ?_
    | with_reducible refine t_exit ?_
    | with_reducible refine b_here ?_
    | with_reducible refine b_on (by decide) ?_)
  refine s_call0 rfl rfl (c69.mono ?_)
  rintro v H' ⟨rfl, g⟩
  repeat (first
    | ((with_reducible refine is_cons ?_); first
      | refine s_flat rfl rfl rfl rfl rfl rfl ?_
      | refine s_read rfl rfl rfl rfl (by simp only [Kind.ne, kLd, Heap.row, V.cells]; rfl) ?_
      | refine s_skip rfl ?_)
    | with_reducible refine s_nil ?_
    | with_reducible refine t_normal ?_
    | with_reducible refine w_seq ?_
    | with_reducible refine w_reg ?_
    | with_reducible refine w_block ?_
    | with_reducible refine w_skip ?_
    | with_reducible refine b_normal ?_
    | ((with_reducible refine is_cond ?_); first
      | refine w_true rfl ?_
      | refine w_false rfl ?_)
    | with_reducible refine w_ret ?_
    | with_reducible refine t_ret ?_
    | with_reducible refine b_ret ?_
    | with_reducible refine w_exit ?_
    | with_reducible refine t_exit ?_
    | with_reducible refine b_here ?_
    | with_reducible refine b_on (by decide) ?_)
  refine w_loop (fun _ e' H2 => lk e' 12 = some (ni 0) ∧ lk e' 11 = some (ni 0) ∧ lk e' 3 = some (.slice none 0 true 0) ∧ H2 = H') 0 ⟨rfl, rfl, rfl, rfl⟩ ?_
  rintro n e H2 ⟨k12, k11, k3, rfl⟩
  refine w_seq (w_reg (s_val rfl (vs := [ni 0, ni 0]) (by simp only [evs, ev, k12, k11]) rfl rfl rfl ?_))
  repeat (first
    | ((with_reducible refine is_cons ?_); first
      | refine s_flat rfl rfl rfl rfl rfl rfl ?_
      | refine s_read rfl rfl rfl rfl (by simp only [Kind.ne, kLd, Heap.row, V.cells]; rfl) ?_
      | refine s_skip rfl ?_)
    | with_reducible refine s_nil ?_
    | with_reducible refine t_normal ?_
    | with_reducible refine w_seq ?_
    | with_reducible refine w_reg ?_
    | with_reducible refine w_block ?_
    | with_reducible refine w_skip ?_
    | with_reducible refine b_normal ?_
    | ((with_reducible refine is_cond ?_); first
      | refine w_true rfl ?_
      | refine w_false rfl ?_)
    | with_reducible refine w_ret ?_
    | with_reducible refine t_ret ?_
    | with_reducible refine b_ret ?_
    | with_reducible refine w_exit ?_
    | with_reducible refine t_exit ?_
    | with_reducible refine b_here ?_
    | with_reducible refine b_on (by decide) ?_)
  refine s_val rfl (vs := [.slice none 0 true 0]) (v := .slice none 0 true 0) (by simp [evs, ev, lk, putE, k3]) rfl rfl rfl ?_
  repeat (first
    | ((with_reducible refine is_cons ?_); first
      | refine s_flat rfl rfl rfl rfl rfl rfl ?_
      | refine s_read rfl rfl rfl rfl (by simp only [Kind.ne, kLd, Heap.row, V.cells]; rfl) ?_
      | refine s_skip rfl ?_)
    | with_reducible refine s_nil ?_
    | with_reducible refine t_normal ?_
    | with_reducible refine w_seq ?_
    | with_reducible refine w_reg ?_
    | with_reducible refine w_block ?_
    | with_reducible refine w_skip ?_
    | with_reducible refine b_normal ?_
    | ((with_reducible refine is_cond ?_); first
      | refine w_true rfl ?_
      | refine w_false rfl ?_)
    | with_reducible refine w_ret ?_
    | with_reducible refine t_ret ?_
    | with_reducible refine b_ret ?_
    | with_reducible refine w_exit ?_
    | with_reducible refine t_exit ?_
    | with_reducible refine b_here ?_
    | with_reducible refine b_on (by decide) ?_)
  exact ⟨_, rfl, rfl, g⟩
end Go.Cn
