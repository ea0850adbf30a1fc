/- slices.Delete: its contract over the given program. -/
import Derived.Test.YtlnpgjfdlefmoaaGreatDoorLib
import Derived.Deep.RegionLaw
import Derived.Deep.LoopGhost
namespace Go.Cn
open Go.Proofs Go.Shelf Go.RowKit Go.Lib
set_option linter.unusedVariables false
set_option linter.unusedSimpArgs false

/-- append as one step of a region that draws, where its run is known. -/
theorem step_append_runD {P : Program} {ops : Array Oper} {o : Oper} {a : Act} {w : World} {K : Act → World → Prop} {Q : Exit → Act → World → Prop} {E : Prop}
    (hg : o.guard = none) (s x : Operand) (t : TypeId) (hop : o.op = Op.call { callee := Callee.builtin Builtin.append, args := #[s, x], argTypes := #[t, t] })
    (v u : Value) (hs : a.eval s = v) (hx : a.eval x = u) {v' : Value} {w' : World} (hr : (Builtin.append_ #[t, t] o.type #[v, u]).run P w = .ok v' w') (hK : K (a.put o.dst v') w') :
    if Region.wanted o (yielded ops a.tmps) = true then Oper.wp P o a w K Q else E := by
  have hw : Region.wanted o (yielded ops a.tmps) = true := by simp [Region.wanted, hg]
  rw [if_pos hw]
  unfold Oper.wp
  simp [execOp, hop, resolve, invoke, builtin, hs, hx, hr, Result.andThen]
  exact hK

set_option maxHeartbeats 4000000 in
set_option maxRecDepth 1000000 in
theorem delete_walk (b off n cap i j : Nat) (w w1 w2 : World) (hij : i < j) (hj : j ≤ n) (hn : n ≤ cap)
    (X : Option Addr) (hX : (if cap = j then some (⟨b, off, none⟩ : Addr) else some ⟨b, off + j * 51, none⟩) = X)
    (h1 : Hid (∀ ty, (Builtin.append_ #[51, 51] ty #[.slice (some ⟨b, off, none⟩) i cap, .slice X (n - j) (cap - j)]).run Tryz.prog w.drew = .ok (.slice (some ⟨b, off, none⟩) (i + (n - j)) cap) w1))
    (hcl : ∀ ty, (Builtin.clear_ #[51] ty #[.slice (some ⟨b, off + (i + (n - j)) * 51, none⟩) (n - (i + (n - j))) (cap - (i + (n - j)))]).run Tryz.prog w1 = .ok (.tuple #[]) w2) :
    Calls Tryz.prog 148 #[.slice (some ⟨b, off, none⟩) n cap, .int .i64 i, .int .i64 j] w fun e w' => e = .returned (.slice (some ⟨b, off, none⟩) (i + (n - j)) cap) ∧ w' = w2 := by
  have mixed : Tryz.prog.follows .mixedOrders = true := by kernel_rfl
  have hic : i ≤ cap := by omega
  have hjc : j ≤ cap := by omega
  go_enter Tryz.func148, Tryz.ntmps148
  go_wp2_with fail
  go_region_law_o (refine step_append_runD rfl (.tmp 22) (.tmp 25) 51 rfl (.slice (some ⟨b, off, none⟩) i cap) (.slice X (n - j) (cap - j)) (by simp [Act.eval, Act.put]) (by simp [Act.eval, Act.put, ← hX]) (h1.out _) ?_)
  go_wp2
  go_ret
  exact ⟨rfl, rfl⟩

theorem VRels.three {ρ : Ren} {u v x : V} {args : Array Value} (h : VRels ρ [u, v, x] args) : ∃ a b c, args = #[a, b, c] ∧ VRel ρ u a ∧ VRel ρ v b ∧ VRel ρ x c := by
  obtain ⟨h1, h2⟩ := h
  match args, h1 with
  | ⟨[a, b, c]⟩, _ => exact ⟨a, b, c, rfl, h2 0 u a rfl rfl, h2 1 v b rfl rfl, h2 2 x c rfl rfl⟩

theorem zLetter_z : zeroT Tryz.prog 50 = some zLetter := by kernel_rfl
theorem letter_s : szT Tryz.prog 50 = some 51 := by kernel_rfl
theorem letter_b : byT Tryz.prog 50 = some 480 := by kernel_rfl
theorem zLetter_l : zLetter.length = 51 := by kernel_rfl

set_option maxHeartbeats 1000000 in
theorem o148 : FnOk Tryz.prog 148 cDelLetter := ⟨by kernel_rfl, fun vs h jj v l h' e => by
  unfold cDelLetter cDelete at e
  split at e
  case h_2 => cases e
  rename_i p n f es i j
  split at e
  · cases e
  rename_i hb
  rw [Bool.and_eq_true, Bool.and_eq_true] at hb
  obtain ⟨hb1, hb2, hb3⟩ := hb
  have hij : i < j := Nat.le_of_ble_eq_true hb1
  have hjn : j ≤ n := Nat.le_of_ble_eq_true hb2
  obtain rfl := Nat.eq_of_beq_eq_true hb3
  split at e
  · cases e
  rename_i id o
  split at e
  · cases e
  rename_i new hrow
  split at e
  · cases e
  rename_i d1 hw1
  split at e
  · cases e
  rename_i h1 hd1
  split at e
  · cases e
  rename_i d2 hw2
  split at e
  · cases e
  rename_i h2 hd2
  simp only [ret1, Option.some.injEq, J.mk.injEq, List.cons.injEq] at e
  obtain ⟨_, ⟨rfl, _⟩, rfl⟩ := e
  intro ρ w args hr ha
  obtain ⟨a0, a1, a2, rfl, g0, g1, g2⟩ := ha.three
  cases g1
  cases g2
  cases g0 with | slice hs =>
  have hrow' := HT.row_ok hrow
  cases hs with
  | dead a hd _ _ => exfalso; unfold Heap.row at hrow'; rw [hr.dead hd] at hrow'; cases hrow'
  | live hl hlen hfull hoff hroom =>
    rename_i cap ro b o1 nn off
    obtain rfl := hoff (by omega)
    have hr' : Rel ρ h.heap w.drew := hr.of_heap (drew_heap w)
    obtain ⟨c, c1, c2, c3, c4⟩ := run_row (P := Tryz.prog) hr' hl hrow'
    have hw1' := dWrite_ok hw1
    rw [← Do.ok hd1] at hw1'
    obtain ⟨w1, e1, e2, e3⟩ := write_ok (P := Tryz.prog) hr' hl c2.l2 c3 hw1'
    obtain ⟨zv, z1, z2, z3⟩ := zeroT_rel (ρ := ρ) zLetter_z
    obtain ⟨c0, y1, y2, y3⟩ := zero_row zLetter zv.cells z2 (by rw [zLetter_l]; omega) (j - i) ((j - i) * zLetter.length) rfl
    have hcell : ∀ v ∈ (List.replicate (j - i) zLetter).flatten, v.isCell = true := by
      intro v hv
      obtain ⟨l, hl, hvl⟩ := List.mem_flatten.1 hv
      rw [List.eq_of_mem_replicate hl] at hvl
      exact z3 v hvl
    have hzc : Builtin.zeroCells zv.cells (j - i) = c0 := by
      rw [← y1]
      unfold Builtin.zeroCells
      rw [← z2.1]
    have hw2' := dWrite_ok hw2
    rw [← Do.ok hd2] at hw2'
    obtain ⟨w2, k1, k2, k3⟩ := write_ok (P := Tryz.prog) e2 hl y3.l2 hcell hw2'
    obtain ⟨inf, zv', i1, i2, i3, i4, i5⟩ := info_all letter_s letter_b zLetter_z zLetter_l
    have hnu : NoInt Tryz.prog 51 := .inl ⟨50, Tryz.underlying51⟩
    have key : ∀ X : Option Addr, (if cap = j then some (⟨b, o1 + o, none⟩ : Addr) else some ⟨b, o1 + o + j * 51, none⟩) = X → ∀ ty, (Builtin.append_ #[51, 51] ty #[.slice (some ⟨b, o1 + o, none⟩) i cap, .slice X (n - j) (cap - j)]).run Tryz.prog w.drew = .ok (.slice (some ⟨b, o1 + o, none⟩) (i + (n - j)) cap) w1 := by
      intro X hX ty
      refine run_append_here (P := Tryz.prog) (new := c) Tryz.underlying51 hnu i1 (by simp [Builtin.lenOf]) ?_ ?_ (by omega)
      · rw [i3]
        by_cases hcj : cap = j
        · rw [if_pos hcj] at hX
          subst hX
          have h0 : n - j = 0 := by omega
          rw [run_firstCells_slice, h0, Nat.zero_mul]
          rw [h0, Nat.zero_mul] at c1
          have hc0 : c = #[] := by
            rw [h0, Nat.zero_mul] at c4
            have := c2.1
            rw [c4] at this
            exact Array.eq_empty_of_size_eq_zero this.symm
          rw [hc0]
          simp [loadCells, loadCellsFrom]
        · rw [if_neg hcj] at hX
          subst hX
          rw [run_firstCells_slice, Nat.add_assoc]
          exact c1
      · rw [i3, add_at, Nat.add_assoc]
        exact e1
    refine Calls.mono (delete_walk b (o1 + o) n cap i j w w1 w2 hij hjn hlen _ rfl (key _ rfl) ?_) ?_
    · intro ty
      obtain ⟨k, hk⟩ : ∃ k, j - i = k + 1 := ⟨j - i - 1, by omega⟩
      have e5 : n - (i + (n - j)) = k + 1 := by omega
      rw [e5, Nat.add_assoc]
      rw [hk] at hzc
      simp [Builtin.clear_, run_underlying Tryz.underlying51, z1, hzc, k1]
    · rintro e w' ⟨rfl, rfl⟩
      have hx0 : Ext ρ h.heap w ρ h.heap w.drew := Ext.of_same rfl rfl rfl
      exact ⟨ρ, _, _, _, rfl, .slice (.live hl (by omega) (fun h => by cases h) (fun _ => rfl) hroom), k2, (hx0.trans e3).trans k3, rfl, rfl⟩⟩

end Go.Cn
