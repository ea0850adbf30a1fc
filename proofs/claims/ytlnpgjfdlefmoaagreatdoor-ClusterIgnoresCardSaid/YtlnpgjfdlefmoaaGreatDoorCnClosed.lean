/- From a pure function's word to every run of a call without arguments. -/
import Derived.Test.YtlnpgjfdlefmoaaGreatDoorCnDeepOk
import Derived.Test.YtlnpgjfdlefmoaaGreatDoorCnCon
import Derived.Below
namespace Go.Cn
set_option linter.unusedVariables false

theorem h00_blk (i : Nat) : h00.heap.blk i = .dead := by
  show Bool.rec (motive := fun _ => Blk) .dead (findC [] i (blkO (Tr.leaf.getR i) .dead)) (inReach i) = _
  cases inReach i <;> rfl

theorem saysTrue_some {r : Option J} (h : saysTrue r = true) : ∃ j l h', r = some ⟨j, .bool true :: l, h'⟩ := by
  unfold saysTrue at h
  split at h
  · split at h
    rename_i n vs hh
    split at h
    · split at h
      · subst h; exact ⟨_, _, _, rfl⟩
      · cases h
    · cases h
  · cases h

theorem rel_none (w : World) : Rel (fun _ => .out) h00.heap w where
  blk h := by cases h
  lt h := by cases h
  inj h := by cases h
  dom h := absurd rfl h
  dead h := by cases h
  top id _ := h00_blk id

/-- A call without arguments that the pure function says true of: it returns true; nothing that was there is touched. -/
theorem calls_true {P : Program} {f : FuncId} {g : List V → HT → Option J} (ok : FnOk P f g) (h : saysTrue (g [] h00) = true) (w : World) :
    Calls P f #[] w fun e w' => e = .returned (.bool true) ∧ ∀ may, w.keptBut w' may := by
  obtain ⟨j, l, h', e⟩ := saysTrue_some h
  refine Calls.mono (ok.ok _ _ _ _ _ _ e (fun _ => .out) w #[] (rel_none w) VRels.nil) ?_
  rintro e w' ⟨ρ', v, v', H', rfl, hv, hr, hx, rfl, _⟩
  cases hv
  refine ⟨rfl, fun may => ⟨hx.os, hx.output, fun i hi => ?_⟩⟩
  rw [hx.frame i hi (fun id o n es hh => by cases hh)]
  split <;> simp_all

end Go.Cn

/- A call without arguments hangs on nothing that is there, and leaves it. -/
namespace Go.Cn
set_option linter.unusedVariables false
set_option linter.unusedSimpArgs false

/-- What a call without arguments does where nothing is known, it does everywhere, and what is known stays. -/
theorem CallT.closed {P : Program} {f : FuncId} {t : Bool} (h : CallT P f [] h00.heap fun v _ => v = .bool t) (H : Heap) : CallT P f [] H fun v H' => v = .bool t ∧ H' = H := by
  intro ρ w args hr ha
  refine Calls.mono (h (fun _ => .out) w args (rel_none w) (by
    refine ⟨ha.1, fun i v v' h1 h2 => ?_⟩
    simp at h1)) ?_
  rintro e w' ⟨ρ', v, v', H', rfl, hv, hr', hx, rfl⟩
  cases hv
  have hfr : ∀ b, b < w.heap.size → w'.heap[b]? = w.heap[b]? := fun b hb => hx.frame b hb (fun id o n es hh => by cases hh)
  refine ⟨ρ, _, _, H, rfl, .bool t, ⟨?_, ?_, ?_, ?_, ?_, ?_⟩, ⟨fun id _ => .inl rfl, fun id _ h => ⟨h, rfl⟩, Nat.le_refl _, hx.size, fun b hb _ => hfr b hb, fun id o n es b h _ => ⟨id, o, n, es, h⟩, hx.os, hx.output⟩, rfl, rfl⟩
  · intro id ro b o n es hl
    exact BlkRel.mono (ρ := ρ) (fun _ _ => .inl rfl) (hfr b (hr.lt hl)) (hr.blk hl)
  · intro id ro b o n es hl
    exact Nat.lt_of_lt_of_le (hr.lt hl) hx.size
  · intro i j ro ro' b o o' n n' es es' h1 h2 h3
    exact hr.inj h1 h2 h3
  · intro id h; exact hr.dom h
  · intro id h; exact hr.dead h
  · intro id h; exact hr.top id h

theorem callT_says {P : Program} {f : FuncId} {g : List V → HT → Option J} (ok : FnOk P f g) (h : saysTrue (g [] h00) = true) (H : Heap) : CallT P f [] H fun v H' => v = .bool true ∧ H' = H := by
  obtain ⟨j, l, h', e⟩ := saysTrue_some h
  exact CallT.closed ((ok.ok _ _ _ _ _ _ e).mono fun v H' h => h.1) H

end Go.Cn
