/- Heaps as trees: what the kernel can reckon with. -/
import Derived.Test.YtdchnobmkhcccaaGreatDoorCnMake
namespace Go.Cn
set_option linter.unusedVariables false
set_option linter.unusedSimpArgs false

inductive Tr (α : Type) where
  | leaf
  | node (l : Tr α) (v : Option α) (r : Tr α)

def Tr.get {α : Type} : Tr α → Nat → Option α
  | .leaf, _ => none
  | .node l v r, n => match Nat.beq n 0 with
    | true => v
    | false => match Nat.beq (n % 2) 1 with
      | true => l.get (n / 2)
      | false => r.get (n / 2 - 1)

def Tr.set {α : Type} (x : α) : Nat → Tr α → Nat → Tr α
  | 0, t, _ => t
  | d + 1, t, n =>
    match t with
    | .leaf => match Nat.beq n 0 with
      | true => .node .leaf (some x) .leaf
      | false => match Nat.beq (n % 2) 1 with
        | true => .node (Tr.set x d .leaf (n / 2)) none .leaf
        | false => .node .leaf none (Tr.set x d .leaf (n / 2 - 1))
    | .node l v r => match Nat.beq n 0 with
      | true => .node l (some x) r
      | false => match Nat.beq (n % 2) 1 with
        | true => .node (Tr.set x d l (n / 2)) v r
        | false => .node l v (Tr.set x d r (n / 2 - 1))

theorem Tr.get_leaf {α : Type} (n : Nat) : (Tr.leaf : Tr α).get n = none := rfl

theorem beq_eq (a b : Nat) : Nat.beq a b = decide (a = b) := by
  cases h : Nat.beq a b
  · have := Nat.ne_of_beq_eq_false h
    simp [this]
  · have := Nat.eq_of_beq_eq_true h
    simp [this]

theorem Tr.get_node {α : Type} (l r : Tr α) (v : Option α) (n : Nat) : (Tr.node l v r).get n = if n = 0 then v else if n % 2 = 1 then l.get (n / 2) else r.get (n / 2 - 1) := by
  simp only [Tr.get, beq_eq]
  by_cases h : n = 0
  · simp [h]
  · by_cases h2 : n % 2 = 1 <;> simp [h, h2]

theorem Tr.set_node {α : Type} (x : α) (d : Nat) (l r : Tr α) (v : Option α) (n : Nat) : Tr.set x (d + 1) (.node l v r) n = if n = 0 then .node l (some x) r else if n % 2 = 1 then .node (Tr.set x d l (n / 2)) v r else .node l v (Tr.set x d r (n / 2 - 1)) := by
  simp only [Tr.set, beq_eq]
  by_cases h : n = 0
  · simp [h]
  · by_cases h2 : n % 2 = 1 <;> simp [h, h2]

theorem Tr.set_leaf {α : Type} (x : α) (d : Nat) (n : Nat) : Tr.set x (d + 1) .leaf n = Tr.set x (d + 1) (.node .leaf none .leaf) n := by
  rw [Tr.set_node]
  simp only [Tr.set, beq_eq]
  by_cases h : n = 0
  · simp [h]
  · by_cases h2 : n % 2 = 1 <;> simp [h, h2]

theorem Tr.get_empty {α : Type} (n : Nat) : (Tr.node .leaf none .leaf : Tr α).get n = none := by
  rw [Tr.get_node]; split <;> (try split) <;> rfl

theorem Tr.get_set {α : Type} (x : α) : ∀ (d : Nat) (t : Tr α) (n m : Nat), n + 1 < 2 ^ d → (Tr.set x d t n).get m = if m = n then some x else t.get m
  | 0, t, n, m, h => by simp at h
  | d + 1, t, n, m, h => by
    have key : ∀ (l r : Tr α) (v : Option α), (Tr.set x (d + 1) (.node l v r) n).get m = if m = n then some x else (Tr.node l v r).get m := by
      intro l r v
      rw [Tr.set_node, Tr.get_node]
      have hp : 2 ^ (d + 1) = 2 * 2 ^ d := by rw [Nat.pow_succ]; omega
      by_cases hn : n = 0
      · rw [if_pos hn, Tr.get_node]
        by_cases hm : m = 0
        · rw [if_pos hm, if_pos (by omega)]
        · have hne : ¬ m = n := by omega
          simp only [if_neg hm, if_neg hne]
      · rw [if_neg hn]
        by_cases hn2 : n % 2 = 1
        · rw [if_pos hn2, Tr.get_node, Tr.get_set x d l (n / 2) (m / 2) (by omega)]
          by_cases hm : m = 0
          · rw [if_pos hm, if_pos hm, if_neg (by omega)]
          · rw [if_neg hm, if_neg hm]
            by_cases hm2 : m % 2 = 1
            · rw [if_pos hm2, if_pos hm2]
              by_cases he : m = n
              · rw [if_pos he, if_pos (by omega)]
              · rw [if_neg he, if_neg (by omega)]
            · rw [if_neg hm2, if_neg hm2, if_neg (by omega)]
        · rw [if_neg hn2, Tr.get_node, Tr.get_set x d r (n / 2 - 1) (m / 2 - 1) (by omega)]
          by_cases hm : m = 0
          · rw [if_pos hm, if_pos hm, if_neg (by omega)]
          · rw [if_neg hm, if_neg hm]
            by_cases hm2 : m % 2 = 1
            · rw [if_pos hm2, if_pos hm2, if_neg (by omega)]
            · rw [if_neg hm2, if_neg hm2]
              by_cases he : m = n
              · rw [if_pos he, if_pos (by omega)]
              · rw [if_neg he, if_neg (by omega)]
    cases t with
    | leaf => rw [Tr.set_leaf, key, Tr.get_empty, Tr.get_leaf]
    | node l v r => exact key l r v

/-- A heap as a tree. -/
structure HT where
  next : Nat
  t : Tr Blk

def HT.blk (h : HT) (i : Nat) : Blk :=
  match h.t.get i with
  | some B => B
  | none => .dead

def HT.heap (h : HT) : Heap := ⟨h.next, h.blk⟩

def depth : Nat := 20

def HT.set (h : HT) (i : Nat) (B : Blk) : HT := ⟨h.next, Tr.set B depth h.t i⟩
def HT.push (h : HT) (B : Blk) : HT := ⟨h.next + 1, Tr.set B depth h.t h.next⟩

/-- Numbers within the tree's reach. -/
def HT.small (h : HT) : Prop := h.next + 1 < 2 ^ depth

theorem HT.heap_set {h : HT} {i : Nat} (hi : i + 1 < 2 ^ depth) (B : Blk) : (h.set i B).heap = h.heap.set i B := by
  unfold HT.heap Heap.set HT.set
  congr 1
  funext j
  simp only [HT.blk]
  rw [Tr.get_set B depth h.t i j hi]
  by_cases e : j = i
  · simp [e]
  · simp [e]

theorem HT.heap_push {h : HT} (hi : h.next + 1 < 2 ^ depth) (B : Blk) : (h.push B).heap = h.heap.push B := by
  unfold HT.heap Heap.push HT.push
  congr 1
  funext j
  simp only [HT.blk]
  rw [Tr.get_set B depth h.t h.next j hi]
  by_cases e : j = h.next
  · simp [e]
  · simp [e]

end Go.Cn
