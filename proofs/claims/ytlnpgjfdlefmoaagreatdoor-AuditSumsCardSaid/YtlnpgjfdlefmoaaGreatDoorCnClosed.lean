/- A call without arguments hangs on nothing that is there, and leaves it. -/
import Derived.Test.YtlnpgjfdlefmoaaGreatDoorCnRow
namespace Go.Cn
set_option linter.unusedVariables false
set_option linter.unusedSimpArgs false

/-- What a call without arguments does where nothing is known, it does everywhere, and what is known stays. -/
theorem CallT.closed {P : Program} {f : FuncId} {t : Bool} (h : CallT P f [] h00.heap fun v _ => v = .bool t) (H : Heap) : CallT P f [] H fun v H' => v = .bool t ∧ H' = H := by
  intro ρ w args hr ha
  refine Calls.mono (h (fun _ => .out) w args (rel_none w) (by
    refine ⟨ha.1, fun i v v' h1 h2 => ?_⟩
    simp at h1)) ?_
  rintro e w' ⟨ρ', v, v', H', rfl, hv, hr', hx, rfl⟩
  cases hv
  have hfr : ∀ b, b < w.heap.size → w'.heap[b]? = w.heap[b]? := fun b hb => hx.frame b hb (fun id o n es hh => by cases hh)
  refine ⟨ρ, _, _, H, rfl, .bool t, ⟨?_, ?_, ?_, ?_, ?_, ?_⟩, ⟨fun id _ => .inl rfl, fun id _ h => ⟨h, rfl⟩, Nat.le_refl _, hx.size, fun b hb _ => hfr b hb, fun id o n es b h _ => ⟨id, o, n, es, h⟩, hx.os, hx.output⟩, rfl, rfl⟩
  · intro id ro b o n es hl
    exact BlkRel.mono (ρ := ρ) (fun _ _ => .inl rfl) (hfr b (hr.lt hl)) (hr.blk hl)
  · intro id ro b o n es hl
    exact Nat.lt_of_lt_of_le (hr.lt hl) hx.size
  · intro i j ro ro' b o o' n n' es es' h1 h2 h3
    exact hr.inj h1 h2 h3
  · intro id h; exact hr.dom h
  · intro id h; exact hr.dead h
  · intro id h; exact hr.top id h

theorem callT_says {P : Program} {f : FuncId} {g : List V → HT → Option J} (ok : FnOk P f g) (h : saysTrue (g [] h00) = true) (H : Heap) : CallT P f [] H fun v H' => v = .bool true ∧ H' = H := by
  obtain ⟨j, l, h', e⟩ := saysTrue_some h
  exact CallT.closed ((ok.ok _ _ _ _ _ _ e).mono fun v H' h => h.1) H

end Go.Cn
