/- The library's functions that are not walked by the evaluator: contracts over the given program. -/
import Derived.Test.YtlnpgjfdlefmoaaGreatDoorCnCon
import Derived.Test.YtlnpgjfdlefmoaaGreatDoorCnGc
import Derived.Test.YtlnpgjfdlefmoaaGreatDoorCnDeepOk
import Derived.Test.YtlnpgjfdlefmoaaGreatDoorChecked
import Derived.Lib.Strings
import Derived.Lib.Slices
import Derived.Lib.Walk
import Derived.Lib.Bytealg
import Derived.Lib.SliceRun
import Derived.Lib.AppendZerosOnto
import Derived.Shelf.RegionOpenPlain
import Derived.WalkKit
namespace Go.Cn
open Go.Proofs Go.Shelf Go.RowKit Go.Lib
set_option linter.unusedVariables false
set_option linter.unusedSimpArgs false

set_option maxHeartbeats 1000000 in
set_option maxRecDepth 100000 in
theorem indexByte_calls (s : ByteArray) (c : Int) (w : World) :
    Calls Tryz.prog 294 #[.string s, .int .u8 c] w fun e w' => e = .returned (.int .i64 (Lib.indexByte s.data.toList c.toNat.toUInt8)) ∧ w' = w := by
  go_enter Tryz.func294, Tryz.ntmps294
  go_wp2
  rw [run_callFunc_extern Tryz.func341 (by kernel_rfl) (by kernel_rfl) (by kernel_rfl) (e := Extern.BytealgIndexByte.indexByte) (by kernel_rfl), Lib.run_indexByteString]
  simp only [Result.andThen]
  rw [Oper.upon_value]
  go_wp2
  go_ret
  exact ⟨rfl, rfl⟩

theorem findB_ok (c : UInt8) : ∀ (l : List UInt8) (i : Nat), (match findB l c.toNat i with | some k => (Int.ofNat k) | none => (-1 : Int)) = if Lib.indexByte l c = -1 then -1 else Lib.indexByte l c + i
  | [], i => by simp [findB, Lib.indexByte]
  | x :: l, i => by
    have ih := findB_ok c l (i + 1)
    have hge := Lib.indexByte_ge l c
    by_cases hx : x = c
    · subst hx
      have e : Lib.indexByte (x :: l) x = 0 := by simp [Lib.indexByte]
      rw [e]
      simp [findB, beq_eq]
    · have hn : ¬ x.toNat = c.toNat := fun e => hx (UInt8.toNat_inj.1 e)
      have e1 : findB (x :: l) c.toNat i = findB l c.toNat (i + 1) := by simp [findB, beq_eq, hn]
      have e : Lib.indexByte (x :: l) c = if Lib.indexByte l c = -1 then -1 else Lib.indexByte l c + 1 := by simp [Lib.indexByte, hx]
      rw [e1, ih, e]
      by_cases hm : Lib.indexByte l c = -1
      · simp [hm]
      · rw [if_neg hm, if_neg hm]
        have : ¬ Lib.indexByte l c + 1 = -1 := by omega
        rw [if_neg this]
        omega

theorem VRels.two {ρ : Ren} {u v : V} {args : Array Value} (h : VRels ρ [u, v] args) : ∃ a b, args = #[a, b] ∧ VRel ρ u a ∧ VRel ρ v b := by
  obtain ⟨h1, h2⟩ := h
  match args, h1 with
  | ⟨[a, b]⟩, _ => exact ⟨a, b, rfl, h2 0 u a rfl rfl, h2 1 v b rfl rfl⟩

theorem o294 : FnOk Tryz.prog 294 cIndexByte := ⟨by kernel_rfl, fun vs h j v l h' e => by
  unfold cIndexByte at e
  split at e
  case h_2 => cases e
  rename_i s b
  split at e
  case h_2 => cases e
  rename_i hb
  have hb := Nat.le_of_ble_eq_true hb
  have hc : (Int.ofNat b).toNat.toUInt8.toNat = b := by
    show (b.toUInt8).toNat = b
    rw [Nat.toUInt8, UInt8.toNat_ofNat']
    omega
  have hv : v = .int .i64 (Lib.indexByte s (Int.ofNat b).toNat.toUInt8) ∧ h' = h := by
    have hf := findB_ok (Int.ofNat b).toNat.toUInt8 s 0
    rw [hc] at hf
    have hz : (if Lib.indexByte s (Int.ofNat b).toNat.toUInt8 = -1 then (-1 : Int) else Lib.indexByte s (Int.ofNat b).toNat.toUInt8 + ((0 : Nat) : Int)) = Lib.indexByte s (Int.ofNat b).toNat.toUInt8 := by
      split
      · rename_i h; rw [h]
      · simp
    rw [hz] at hf
    split at e
    · rename_i k hk
      rw [hk] at hf
      simp only [ret1, Option.some.injEq, J.mk.injEq, List.cons.injEq] at e
      obtain ⟨_, ⟨rfl, _⟩, rfl⟩ := e
      exact ⟨by rw [← hf], rfl⟩
    · rename_i hk
      rw [hk] at hf
      simp only [ret1, Option.some.injEq, J.mk.injEq, List.cons.injEq] at e
      obtain ⟨_, ⟨rfl, _⟩, rfl⟩ := e
      exact ⟨by rw [← hf]; rfl, rfl⟩
  obtain ⟨rfl, rfl⟩ := hv
  intro ρ w args hr ha
  obtain ⟨a, b', rfl, h1, h2⟩ := ha.two
  cases h1 with | str hs =>
  cases h2
  refine Calls.mono (indexByte_calls _ _ w) ?_
  rintro e w' ⟨rfl, rfl⟩
  refine ⟨ρ, _, _, _, rfl, ?_, hr, Ext.refl _ _ _, rfl, rfl⟩
  rw [hs]
  exact .int _ _⟩

set_option maxHeartbeats 1000000 in
set_option maxRecDepth 100000 in
theorem grow_zero (w : World) : Calls Tryz.prog 304 #[.slice none 0 0, .int .i64 0] w fun e w' => e = .returned (.slice none 0 0) ∧ w' = w := by
  go_enter Tryz.func304, Tryz.ntmps304
  go_wp2
  all_goals (go_ret; exact ⟨rfl, rfl⟩)

set_option maxHeartbeats 4000000 in
set_option maxRecDepth 100000 in
theorem grow_nil (n : Nat) (h0 : 0 < n) (hb : n ≤ 1099511627776) (w : World) : ∃ z : Array Value, z.size = 1 ∧ Calls Tryz.prog 304 #[.slice none 0 0, .int .i64 n] w fun e w' =>
    e = .returned (.slice (some ⟨w.heap.size, 0, none⟩) 0 (grownCap w n 0 5)) ∧
    w' = w.drew.alloc (.cells (#[] ++ (Builtin.zeroCells z n ++ Builtin.zeroCells z (grownCap w n 0 5 - n))) 5) := by
  obtain ⟨i0, zv, hi0, hz0, hs1, hb1, hzz⟩ := info_all (P := Tryz.prog) (t := 5) (s := 1) (b := 1) (z := [.int .u8 0]) (by kernel_rfl) (by kernel_rfl) (by kernel_rfl) rfl
  refine ⟨zv.cells, by rw [hzz, hs1], ?_⟩
  have h1 : ¬ ((n : Int) < 0) := by omega
  have h3 : wrap64 ((n : Int) - 0) = (n : Int) := by unfold wrap64; omega
  have h4 : (n : Int) > 0 := by omega
  have hrz : ∀ ty, (Builtin.append_ #[106, 3] ty #[.slice none 0 0, .int .i64 (n : Int)]).run Tryz.prog w =
      .ok (.slice (some ⟨w.heap.size, 0, none⟩) n (grownCap w n 0 5)) (w.drew.alloc (.cells (#[] ++ (Builtin.zeroCells zv.cells n ++ Builtin.zeroCells zv.cells (grownCap w n 0 5 - n))) 5)) := fun ty => by
    have h := Lib.run_append_grow_zeros w 106 3 ty 5 i0 _ .i64 .i64 Tryz.underlying106 Tryz.underlying3 hi0 hz0 none 0 0 [] (by exact run_firstCells_none w.drew i0.size 0 0 0) n h0 (by omega) (by omega) (by omega) (by rw [hb1]; omega)
      (by rw [hb1]; have := growslice_fits (need := 0 + n) (old := 0) (bytes := 1) (by omega) (by omega); omega)
    rw [Nat.zero_add] at h
    simpa using h
  have hGn : n ≤ grownCap w n 0 5 := grownCap_ge w _ _ _
  obtain ⟨G, hG⟩ : ∃ G, G = grownCap w n 0 5 := ⟨_, rfl⟩
  rw [← hG] at hrz hGn ⊢
  have hG63 : G ≤ 9223372036854775807 := by
    have := grownCap_le_maxLen w n 0 5 (by unfold maxLen; omega)
    rw [← hG] at this
    unfold maxLen at this
    omega
  generalize zv.cells = zc at hrz
  clear hi0 hz0 hs1 hb1 hG hzz
  go_enter Tryz.func304, Tryz.ntmps304
  go_wp2_with (at_builtin; refine Lib.wpList_append_run _ rfl _ _ _ _ rfl _ _ rfl rfl _ _ (hrz _) ?_)
  all_goals (go_ret; exact ⟨rfl, rfl⟩)

theorem o304 : FnOk Tryz.prog 304 (cGrow 1 1) := ⟨by kernel_rfl, fun vs h j v l h' e => by
  unfold cGrow at e
  split at e
  case h_2 => cases e
  rename_i n f es k
  intro ρ w args hr ha
  obtain ⟨a, b, rfl, h1, h2⟩ := ha.two
  cases h1 with | slice hs =>
  cases hs
  cases h2
  split at e
  · rename_i hk
    have hk := Nat.eq_of_beq_eq_true hk
    subst hk
    simp only [ret1, Option.some.injEq, J.mk.injEq, List.cons.injEq] at e
    obtain ⟨_, ⟨rfl, _⟩, rfl⟩ := e
    refine Calls.mono (grow_zero w) ?_
    rintro e w' ⟨rfl, rfl⟩
    exact ⟨ρ, _, _, _, rfl, .slice .nil, hr, Ext.refl _ _ _, rfl, rfl⟩
  · rename_i hk
    have hk := Nat.ne_of_beq_eq_false hk
    split at e
    case h_2 => cases e
    rename_i hb
    rw [Bool.and_eq_true] at hb
    have hb2 := Nat.le_of_ble_eq_true hb.2
    obtain ⟨z, hz1, hc⟩ := grow_nil k (by omega) hb2 w
    obtain ⟨v1, d, h2, e1, e2, e3⟩ := bndE_some e
    cases e1
    simp only [ret1, Option.some.injEq, J.mk.injEq, List.cons.injEq] at e3
    obtain ⟨_, ⟨rfl, _⟩, rfl⟩ := e3
    have hd := Do.ok e2
    refine Calls.mono hc ?_
    rintro e w' ⟨rfl, hw⟩
    have hsz : (#[] ++ (Builtin.zeroCells z k ++ Builtin.zeroCells z (grownCap w k 0 5 - k))).size = grownCap w k 0 5 := by
      have := grownCap_ge w k 0 5
      simp only [Array.size_append, Builtin.zeroCells, Array.size_map, Array.size_range, List.size_toArray, List.length_nil, hz1]
      omega
    obtain ⟨g1, g2⟩ := rel_push hr (w' := w') (O := .cells (#[] ++ (Builtin.zeroCells z k ++ Builtin.zeroCells z (grownCap w k 0 5 - k))) 5) (by rw [hw]; rfl) (by rw [hw]; rfl) (by rw [hw]; rfl)
      (new_cells_room (es := 1) (cs := []) (c := #[]) VRels.nil (by simp) (by rw [hw]; rfl) h.heap.next hr.next_out)
    refine ⟨_, _, _, _, rfl, new_slice (full := false) (Nat.zero_le _) (fun h => by cases h) (by rw [hsz]; omega), g1, g2, rfl, ?_⟩
    rw [hd]; rfl⟩

end Go.Cn
