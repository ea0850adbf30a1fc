/- From a pure function's word to every run of a call without arguments. -/
import Derived.Test.YtlnpgjfdlefmoaaGreatDoorCnDeepOk
import Derived.Test.YtlnpgjfdlefmoaaGreatDoorCnCon
import Derived.Below
namespace Go.Cn
set_option linter.unusedVariables false

theorem h00_blk (i : Nat) : h00.heap.blk i = .dead := by
  show Bool.rec (motive := fun _ => Blk) .dead (findC [] i (blkO (Tr.leaf.getR i) .dead)) (inReach i) = _
  cases inReach i <;> rfl

theorem saysTrue_some {r : Option J} (h : saysTrue r = true) : ∃ j l h', r = some ⟨j, .bool true :: l, h'⟩ := by
  unfold saysTrue at h
  split at h
  · split at h
    rename_i n vs hh
    split at h
    · split at h
      · subst h; exact ⟨_, _, _, rfl⟩
      · cases h
    · cases h
  · cases h

theorem rel_none (w : World) : Rel (fun _ => .out) h00.heap w where
  blk h := by cases h
  lt h := by cases h
  inj h := by cases h
  dom h := absurd rfl h
  dead h := by cases h
  top id _ := h00_blk id

/-- A call without arguments that the pure function says true of: it returns true; nothing that was there is touched. -/
theorem calls_true {P : Program} {f : FuncId} {g : List V → HT → Option J} (ok : FnOk P f g) (h : saysTrue (g [] h00) = true) (w : World) :
    Calls P f #[] w fun e w' => e = .returned (.bool true) ∧ ∀ may, w.keptBut w' may := by
  obtain ⟨j, l, h', e⟩ := saysTrue_some h
  refine Calls.mono (ok.ok _ _ _ _ _ _ e (fun _ => .out) w #[] (rel_none w) VRels.nil) ?_
  rintro e w' ⟨ρ', v, v', H', rfl, hv, hr, hx, rfl, _⟩
  cases hv
  refine ⟨rfl, fun may => ⟨hx.os, hx.output, fun i hi => ?_⟩⟩
  rw [hx.frame i hi (fun id o n es hh => by cases hh)]
  split <;> simp_all

end Go.Cn
