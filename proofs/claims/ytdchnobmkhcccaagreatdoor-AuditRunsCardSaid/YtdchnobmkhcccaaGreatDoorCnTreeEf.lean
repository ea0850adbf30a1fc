/- The effects on heaps as trees. -/
import Derived.Test.YtdchnobmkhcccaaGreatDoorCnTree
namespace Go.Cn
set_option linter.unusedVariables false
set_option linter.unusedSimpArgs false

/-- 'H' is what the tree 'h' says, and its numbers are within reach. -/
def HT.fits (h : HT) : Bool := Nat.ble (h.next + 2) 1048576

theorem HT.fits_lt {h : HT} (hf : h.fits = true) : h.next + 1 < 2 ^ depth := by
  have := Nat.le_of_ble_eq_true hf
  have e : (2 : Nat) ^ depth = 1048576 := by decide
  rw [e]; omega

/-- A step of the tree stands for a step of the heap. -/
def Step (h : HT) (r : Option (V × HT)) (x : Option (V × Heap)) : Prop := ∀ v h', r = some (v, h') → x = some (v, h'.heap)

def HT.put (h : HT) (id : Nat) (B : Blk) : Option HT :=
  match Nat.ble (id + 2) 1048576 with
  | true => some (h.set id B)
  | false => none

def HT.add (h : HT) (B : Blk) : Option HT :=
  match h.fits with
  | true => some (h.push B)
  | false => none

theorem HT.put_heap {h h' : HT} {id : Nat} {B : Blk} (e : h.put id B = some h') : h'.heap = h.heap.set id B := by
  unfold HT.put at e
  split at e
  · rename_i hb
    cases e
    refine HT.heap_set ?_ B
    have := Nat.le_of_ble_eq_true hb
    have e : (2 : Nat) ^ depth = 1048576 := by decide
    rw [e]; omega
  · cases e

theorem HT.add_heap {h h' : HT} {B : Blk} (e : h.add B = some h') : h'.heap = h.heap.push B ∧ h'.next = h.next + 1 := by
  unfold HT.add at e
  split at e
  · rename_i hb
    cases e
    exact ⟨HT.heap_push (HT.fits_lt hb) B, rfl⟩
  · cases e

theorem HT.heap_blk (h : HT) (i : Nat) : h.heap.blk i = h.blk i := rfl
theorem HT.heap_next (h : HT) : h.heap.next = h.next := rfl

/-- All effects are made of reads and at most one write and one new block: the abstract machine's own functions, over what the heap says, told as what is to be done. -/
inductive Do where
  | none
  | set (id : Nat) (B : Blk)
  | new (B : Blk)
  | move (id : Nat) (B : Blk)

def Do.onH (H : Heap) : Do → Heap
  | .none => H
  | .set id B => H.set id B
  | .new B => H.push B
  | .move id B => (H.set id .dead).push B

def Do.onT (h : HT) : Do → Option HT
  | .none => some h
  | .set id B => h.put id B
  | .new B => h.add B
  | .move id B => match h.put id .dead with
    | some h' => h'.add B
    | Option.none => Option.none

theorem Do.ok {h h' : HT} {d : Do} (e : d.onT h = some h') : h'.heap = d.onH h.heap := by
  cases d with
  | none => cases e; rfl
  | set id B => exact HT.put_heap e
  | new B => exact (HT.add_heap e).1
  | move id B =>
    simp only [Do.onT] at e
    split at e
    · rename_i h1 e1
      rw [(HT.add_heap e).1, HT.put_heap e1]; rfl
    · cases e

end Go.Cn
