/- Heaps as trees: what the kernel can reckon with. -/
import Derived.Test.YtlnpgjfdlefmoaaGreatDoorCnOp
namespace Go.Cn
set_option linter.unusedVariables false
set_option linter.unusedSimpArgs false

inductive Tr (α : Type) where
  | leaf
  | node (l : Tr α) (v : Option α) (r : Tr α)

def Tr.get {α : Type} : Tr α → Nat → Option α
  | .leaf, _ => none
  | .node l v r, n => match Nat.beq n 0 with
    | true => v
    | false => match Nat.beq (n % 2) 1 with
      | true => l.get (n / 2)
      | false => r.get (n / 2 - 1)

def Tr.set {α : Type} (x : α) : Nat → Tr α → Nat → Tr α
  | 0, t, _ => t
  | d + 1, t, n =>
    match t with
    | .leaf => match Nat.beq n 0 with
      | true => .node .leaf (some x) .leaf
      | false => match Nat.beq (n % 2) 1 with
        | true => .node (Tr.set x d .leaf (n / 2)) none .leaf
        | false => .node .leaf none (Tr.set x d .leaf (n / 2 - 1))
    | .node l v r => match Nat.beq n 0 with
      | true => .node l (some x) r
      | false => match Nat.beq (n % 2) 1 with
        | true => .node (Tr.set x d l (n / 2)) v r
        | false => .node l v (Tr.set x d r (n / 2 - 1))

theorem Tr.get_leaf {α : Type} (n : Nat) : (Tr.leaf : Tr α).get n = none := rfl

theorem beq_eq (a b : Nat) : Nat.beq a b = decide (a = b) := by
  cases h : Nat.beq a b
  · have := Nat.ne_of_beq_eq_false h
    simp [this]
  · have := Nat.eq_of_beq_eq_true h
    simp [this]

theorem Tr.get_node {α : Type} (l r : Tr α) (v : Option α) (n : Nat) : (Tr.node l v r).get n = if n = 0 then v else if n % 2 = 1 then l.get (n / 2) else r.get (n / 2 - 1) := by
  simp only [Tr.get, beq_eq]
  by_cases h : n = 0
  · simp [h]
  · by_cases h2 : n % 2 = 1 <;> simp [h, h2]

theorem Tr.set_node {α : Type} (x : α) (d : Nat) (l r : Tr α) (v : Option α) (n : Nat) : Tr.set x (d + 1) (.node l v r) n = if n = 0 then .node l (some x) r else if n % 2 = 1 then .node (Tr.set x d l (n / 2)) v r else .node l v (Tr.set x d r (n / 2 - 1)) := by
  simp only [Tr.set, beq_eq]
  by_cases h : n = 0
  · simp [h]
  · by_cases h2 : n % 2 = 1 <;> simp [h, h2]

theorem Tr.set_leaf {α : Type} (x : α) (d : Nat) (n : Nat) : Tr.set x (d + 1) .leaf n = Tr.set x (d + 1) (.node .leaf none .leaf) n := by
  rw [Tr.set_node]
  simp only [Tr.set, beq_eq]
  by_cases h : n = 0
  · simp [h]
  · by_cases h2 : n % 2 = 1 <;> simp [h, h2]

theorem Tr.get_empty {α : Type} (n : Nat) : (Tr.node .leaf none .leaf : Tr α).get n = none := by
  rw [Tr.get_node]; split <;> (try split) <;> rfl

theorem Tr.get_set {α : Type} (x : α) : ∀ (d : Nat) (t : Tr α) (n m : Nat), n + 1 < 2 ^ d → (Tr.set x d t n).get m = if m = n then some x else t.get m
  | 0, t, n, m, h => by simp at h
  | d + 1, t, n, m, h => by
    have key : ∀ (l r : Tr α) (v : Option α), (Tr.set x (d + 1) (.node l v r) n).get m = if m = n then some x else (Tr.node l v r).get m := by
      intro l r v
      rw [Tr.set_node, Tr.get_node]
      have hp : 2 ^ (d + 1) = 2 * 2 ^ d := by rw [Nat.pow_succ]; omega
      by_cases hn : n = 0
      · rw [if_pos hn, Tr.get_node]
        by_cases hm : m = 0
        · rw [if_pos hm, if_pos (by omega)]
        · have hne : ¬ m = n := by omega
          simp only [if_neg hm, if_neg hne]
      · rw [if_neg hn]
        by_cases hn2 : n % 2 = 1
        · rw [if_pos hn2, Tr.get_node, Tr.get_set x d l (n / 2) (m / 2) (by omega)]
          by_cases hm : m = 0
          · rw [if_pos hm, if_pos hm, if_neg (by omega)]
          · rw [if_neg hm, if_neg hm]
            by_cases hm2 : m % 2 = 1
            · rw [if_pos hm2, if_pos hm2]
              by_cases he : m = n
              · rw [if_pos he, if_pos (by omega)]
              · rw [if_neg he, if_neg (by omega)]
            · rw [if_neg hm2, if_neg hm2, if_neg (by omega)]
        · rw [if_neg hn2, Tr.get_node, Tr.get_set x d r (n / 2 - 1) (m / 2 - 1) (by omega)]
          by_cases hm : m = 0
          · rw [if_pos hm, if_pos hm, if_neg (by omega)]
          · rw [if_neg hm, if_neg hm]
            by_cases hm2 : m % 2 = 1
            · rw [if_pos hm2, if_pos hm2, if_neg (by omega)]
            · rw [if_neg hm2, if_neg hm2]
              by_cases he : m = n
              · rw [if_pos he, if_pos (by omega)]
              · rw [if_neg he, if_neg (by omega)]
    cases t with
    | leaf => rw [Tr.set_leaf, key, Tr.get_empty, Tr.get_leaf]
    | node l v r => exact key l r v

/-- The same, by the recursors themselves: what the kernel reckons with least. -/
noncomputable def Tr.getR {α : Type} (t : Tr α) (n : Nat) : Option α :=
  Tr.rec (motive := fun _ => Nat → Option α) (fun _ => none)
    (fun _ v _ ihl ihr n => Bool.rec (Bool.rec (ihr (Nat.sub (Nat.div n (nat_lit 2)) (nat_lit 1))) (ihl (Nat.div n (nat_lit 2))) (Nat.beq (Nat.mod n (nat_lit 2)) (nat_lit 1))) v (Nat.beq n (nat_lit 0))) t n

noncomputable def Tr.setR {α : Type} (x : α) (d : Nat) (t : Tr α) (n : Nat) : Tr α :=
  Nat.rec (motive := fun _ => Tr α → Nat → Tr α) (fun t _ => t)
    (fun _ ih t n => Tr.rec (motive := fun _ => Tr α)
      (Bool.rec (Bool.rec (.node .leaf none (ih .leaf (Nat.sub (Nat.div n (nat_lit 2)) (nat_lit 1)))) (.node (ih .leaf (Nat.div n (nat_lit 2))) none .leaf) (Nat.beq (Nat.mod n (nat_lit 2)) (nat_lit 1))) (.node .leaf (some x) .leaf) (Nat.beq n (nat_lit 0)))
      (fun l v r _ _ => Bool.rec (Bool.rec (.node l v (ih r (Nat.sub (Nat.div n (nat_lit 2)) (nat_lit 1)))) (.node (ih l (Nat.div n (nat_lit 2))) v r) (Nat.beq (Nat.mod n (nat_lit 2)) (nat_lit 1))) (.node l (some x) r) (Nat.beq n (nat_lit 0)))
      t) d t n

theorem Tr.getR_eq {α : Type} : ∀ (t : Tr α) (n : Nat), t.getR n = t.get n
  | .leaf, n => rfl
  | .node l v r, n => by
    have h1 : (Tr.node l v r).getR n = Bool.rec (motive := fun _ => Option α) (Bool.rec (motive := fun _ => Option α) (r.getR (n / 2 - 1)) (l.getR (n / 2)) (Nat.beq (n % 2) 1)) v (Nat.beq n 0) := rfl
    rw [h1, Tr.getR_eq l, Tr.getR_eq r]
    simp only [Tr.get]
    cases Nat.beq n 0 <;> cases Nat.beq (n % 2) 1 <;> rfl

theorem Tr.setR_eq {α : Type} (x : α) : ∀ (d : Nat) (t : Tr α) (n : Nat), Tr.setR x d t n = Tr.set x d t n
  | 0, t, n => rfl
  | d + 1, .leaf, n => by
    have h1 : Tr.setR x (d + 1) .leaf n = Bool.rec (motive := fun _ => Tr α) (Bool.rec (motive := fun _ => Tr α) (.node .leaf none (Tr.setR x d .leaf (n / 2 - 1))) (.node (Tr.setR x d .leaf (n / 2)) none .leaf) (Nat.beq (n % 2) 1)) (.node .leaf (some x) .leaf) (Nat.beq n 0) := rfl
    rw [h1, Tr.setR_eq x d, Tr.setR_eq x d]
    simp only [Tr.set]
    cases Nat.beq n 0 <;> cases Nat.beq (n % 2) 1 <;> rfl
  | d + 1, .node l v r, n => by
    have h1 : Tr.setR x (d + 1) (.node l v r) n = Bool.rec (motive := fun _ => Tr α) (Bool.rec (motive := fun _ => Tr α) (.node l v (Tr.setR x d r (n / 2 - 1))) (.node (Tr.setR x d l (n / 2)) v r) (Nat.beq (n % 2) 1)) (.node l (some x) r) (Nat.beq n 0) := rfl
    rw [h1, Tr.setR_eq x d, Tr.setR_eq x d]
    simp only [Tr.set]
    cases Nat.beq n 0 <;> cases Nat.beq (n % 2) 1 <;> rfl

/-- A heap as a tree, and the last few writes ahead of it, the newest first. 'g': what stands where the tree says nothing. -/
structure HT where
  next : Nat
  t : Tr Blk
  c : List (Nat × Blk)
  n : Nat
  g : Nat → Blk

def depth : Nat := 20

noncomputable def inReach (i : Nat) : Bool := Nat.ble i (nat_lit 1048570)
theorem reach {n : Nat} (h : inReach n = true) : n + 1 < 2 ^ depth := by
  have : n ≤ 1048570 := Nat.le_of_ble_eq_true h
  have e : (2 : Nat) ^ depth = 1048576 := by decide
  rw [e]; omega

noncomputable def findC (c : List (Nat × Blk)) (i : Nat) (d : Blk) : Blk :=
  List.rec (motive := fun _ => Blk) d (fun x _ ih => Bool.rec (motive := fun _ => Blk) ih x.2 (Nat.beq x.1 i)) c

noncomputable def blkO (o : Option Blk) (d : Blk) : Blk := Option.rec (motive := fun _ => Blk) d (fun B => B) o

noncomputable def HT.blk (h : HT) (i : Nat) : Blk :=
  Bool.rec (motive := fun _ => Blk) (h.g i) (findC h.c i (blkO (h.t.getR i) (h.g i))) (inReach i)

noncomputable def HT.heap (h : HT) : Heap := ⟨h.next, h.blk⟩

noncomputable def pushC (c : List (Nat × Blk)) (i : Nat) (B : Blk) : List (Nat × Blk) :=
  List.rec (motive := fun _ => List (Nat × Blk)) [(i, B)] (fun x l _ => Bool.rec (motive := fun _ => List (Nat × Blk)) ((i, B) :: x :: l) ((i, B) :: l) (Nat.beq x.1 i)) c

noncomputable def setQ (t : Tr Blk) (i : Nat) (B : Blk) : Tr Blk := Bool.rec (motive := fun _ => Tr Blk) t (Tr.setR B (nat_lit 20) t i) (inReach i)
noncomputable def flushC (c : List (Nat × Blk)) (t : Tr Blk) : Tr Blk :=
  List.rec (motive := fun _ => Tr Blk) t (fun x _ ih => setQ ih x.1 x.2) c

noncomputable def HT.wrt (h : HT) (next i : Nat) (B : Blk) : HT :=
  Bool.rec (motive := fun _ => HT) ⟨next, flushC h.c h.t, [(i, B)], nat_lit 1, h.g⟩ ⟨next, h.t, pushC h.c i B, Nat.succ h.n, h.g⟩ (Nat.ble h.n (nat_lit 8))

noncomputable def HT.set (h : HT) (i : Nat) (B : Blk) : HT := h.wrt h.next i B
noncomputable def HT.push (h : HT) (B : Blk) : HT := h.wrt (Nat.succ h.next) h.next B

theorem findC_cons (x : Nat × Blk) (l : List (Nat × Blk)) (i : Nat) (d : Blk) : findC (x :: l) i d = if x.1 = i then x.2 else findC l i d := by
  show Bool.rec (motive := fun _ => Blk) (findC l i d) x.2 (Nat.beq x.1 i) = _
  rw [beq_eq]
  by_cases h : x.1 = i <;> simp [h]

theorem pushC_find (c : List (Nat × Blk)) (i j : Nat) (B d : Blk) : findC (pushC c i B) j d = if i = j then B else findC c j d := by
  cases c with
  | nil =>
    show findC [(i, B)] j d = _
    rw [findC_cons]
  | cons x l =>
    show findC (Bool.rec (motive := fun _ => List (Nat × Blk)) ((i, B) :: x :: l) ((i, B) :: l) (Nat.beq x.1 i)) j d = _
    rw [beq_eq]
    by_cases h : x.1 = i
    · simp only [h, decide_true]
      rw [findC_cons, findC_cons]
      by_cases e : i = j
      · simp [e]
      · have : ¬ x.1 = j := by rw [h]; exact e
        simp [e, this]
    · simp only [h, decide_false]
      rw [findC_cons]

theorem flush_get {j : Nat} (hj : inReach j = true) (d : Blk) : ∀ (c : List (Nat × Blk)) (t : Tr Blk), blkO ((flushC c t).getR j) d = findC c j (blkO (t.getR j) d)
  | [], t => rfl
  | x :: l, t => by
    rw [findC_cons, ← flush_get hj d l t]
    show blkO ((setQ (flushC l t) x.1 x.2).getR j) d = _
    unfold setQ
    cases hx : inReach x.1 with
    | false =>
      have : ¬ x.1 = j := fun e => by rw [e, hj] at hx; cases hx
      rw [if_neg this]
    | true =>
      show blkO ((Tr.setR x.2 20 (flushC l t) x.1).getR j) d = _
      rw [Tr.getR_eq, Tr.setR_eq, Tr.getR_eq, show (20 : Nat) = depth from rfl, Tr.get_set x.2 depth _ x.1 j (reach hx)]
      by_cases e : x.1 = j
      · simp [e]; rfl
      · have e' : ¬ j = x.1 := fun h => e h.symm
        simp [e, e']

theorem HT.wrt_g {h : HT} {next i : Nat} (B : Blk) : (h.wrt next i B).g = h.g := by
  unfold HT.wrt
  cases Nat.ble h.n 8 <;> rfl

theorem HT.wrt_blk {h : HT} {next i : Nat} (hi : inReach i = true) (B : Blk) (j : Nat) : (h.wrt next i B).blk j = if j = i then B else h.blk j := by
  unfold HT.blk
  rw [HT.wrt_g]
  cases hj : inReach j with
  | false =>
    have : ¬ j = i := fun e => by rw [e, hi] at hj; cases hj
    rw [if_neg this]
  | true =>
    show findC (h.wrt next i B).c j (blkO ((h.wrt next i B).t.getR j) (h.g j)) = if j = i then B else findC h.c j (blkO (h.t.getR j) (h.g j))
    unfold HT.wrt
    cases Nat.ble h.n 8 with
    | true =>
      show findC (pushC h.c i B) j (blkO (h.t.getR j) (h.g j)) = _
      rw [pushC_find]
      by_cases e : i = j
      · simp [e]
      · have e' : ¬ j = i := fun h => e h.symm
        simp [e, e']
    | false =>
      show findC [(i, B)] j (blkO ((flushC h.c h.t).getR j) (h.g j)) = _
      rw [findC_cons, flush_get hj]
      by_cases e : i = j
      · simp [e]
      · have e' : ¬ j = i := fun h => e h.symm
        simp [e, e']
        rfl

theorem HT.wrt_next {h : HT} {next i : Nat} (B : Blk) : (h.wrt next i B).next = next := by
  unfold HT.wrt
  cases Nat.ble h.n 8 <;> rfl

theorem HT.heap_set {h : HT} {i : Nat} (hi : inReach i = true) (B : Blk) : (h.set i B).heap = h.heap.set i B := by
  unfold HT.heap Heap.set HT.set
  rw [HT.wrt_next]
  congr 1
  funext j
  exact HT.wrt_blk hi B j

theorem HT.heap_push {h : HT} (hi : inReach h.next = true) (B : Blk) : (h.push B).heap = h.heap.push B := by
  unfold HT.heap Heap.push HT.push
  rw [HT.wrt_next]
  congr 1
  funext j
  exact HT.wrt_blk hi B j

/-- Any heap is one of these. -/
def HT.of (H : Heap) : HT := ⟨H.next, .leaf, [], nat_lit 0, H.blk⟩
theorem HT.of_heap (H : Heap) : (HT.of H).heap = H := by
  cases H with
  | mk n b =>
    unfold HT.heap HT.of
    congr 1
    funext i
    show Bool.rec (motive := fun _ => Blk) (b i) (findC [] i (blkO (Tr.leaf.getR i) (b i))) (inReach i) = b i
    cases inReach i <;> rfl

end Go.Cn

/- The effects on heaps as trees. -/
namespace Go.Cn
set_option linter.unusedVariables false
set_option linter.unusedSimpArgs false

noncomputable def HT.put (h : HT) (id : Nat) (B : Blk) : Option HT :=
  Bool.rec (motive := fun _ => Option HT) none (some (h.set id B)) (inReach id)

noncomputable def HT.add (h : HT) (B : Blk) : Option HT :=
  Bool.rec (motive := fun _ => Option HT) none (some (h.push B)) (inReach h.next)

theorem HT.put_heap {h h' : HT} {id : Nat} {B : Blk} (e : h.put id B = some h') : h'.heap = h.heap.set id B := by
  unfold HT.put at e
  cases hb : inReach id with
  | false => rw [hb] at e; cases e
  | true =>
    rw [hb] at e
    cases e
    exact HT.heap_set hb B

theorem HT.add_heap {h h' : HT} {B : Blk} (e : h.add B = some h') : h'.heap = h.heap.push B ∧ h'.next = h.next + 1 := by
  unfold HT.add at e
  cases hb : inReach h.next with
  | false => rw [hb] at e; cases e
  | true =>
    rw [hb] at e
    cases e
    exact ⟨HT.heap_push hb B, HT.wrt_next B⟩

theorem HT.heap_blk (h : HT) (i : Nat) : h.heap.blk i = h.blk i := rfl
theorem HT.heap_next (h : HT) : h.heap.next = h.next := rfl

/-- All effects are made of reads and at most one write and one new block: the abstract machine's own functions, over what the heap says, told as what is to be done. -/
inductive Do where
  | none
  | set (id : Nat) (B : Blk)
  | new (B : Blk)
  | move (id : Nat) (B : Blk)

def Do.onH (H : Heap) : Do → Heap
  | .none => H
  | .set id B => H.set id B
  | .new B => H.push B
  | .move id B => (H.set id .dead).push B

noncomputable def Do.onT (h : HT) (d : Do) : Option HT :=
  Do.rec (motive := fun _ => Option HT) (some h) (fun id B => h.put id B) (fun B => h.add B) (fun id B => Option.rec (motive := fun _ => Option HT) Option.none (fun h' => h'.add B) (h.put id .dead)) d

theorem Do.ok {h h' : HT} {d : Do} (e : d.onT h = some h') : h'.heap = d.onH h.heap := by
  cases d with
  | none => cases e; rfl
  | set id B => exact HT.put_heap e
  | new B => exact (HT.add_heap e).1
  | move id B =>
    have e' : Option.rec (motive := fun _ => Option HT) Option.none (fun h' => h'.add B) (h.put id .dead) = some h' := e
    cases e1 : h.put id .dead with
    | none => rw [e1] at e'; cases e'
    | some h1 =>
      rw [e1] at e'
      have e2 : h1.add B = some h' := e'
      rw [(HT.add_heap e2).1, HT.put_heap e1]; rfl

end Go.Cn

/- The effects, told as what is to be done. -/
namespace Go.Cn
set_option linter.unusedVariables false
set_option linter.unusedSimpArgs false

noncomputable def dropR (l : List V) (n : Nat) : List V :=
  List.rec (motive := fun _ => Nat → List V) (fun _ => []) (fun x t ih n => Nat.rec (motive := fun _ => List V) (x :: t) (fun m _ => ih m) n) l n
noncomputable def takeR (l : List V) (n : Nat) : List V :=
  List.rec (motive := fun _ => Nat → List V) (fun _ => []) (fun x _ ih n => Nat.rec (motive := fun _ => List V) [] (fun m _ => x :: ih m) n) l n
/-- Has it so many at least? -/
noncomputable def leB (l : List V) (n : Nat) : Bool :=
  List.rec (motive := fun _ => Nat → Bool) (fun n => Nat.rec (motive := fun _ => Bool) true (fun _ _ => false) n) (fun _ _ ih n => Nat.rec (motive := fun _ => Bool) true (fun m _ => ih m) n) l n
noncomputable def nthR (l : List V) (n : Nat) : Option V :=
  List.rec (motive := fun _ => Nat → Option V) (fun _ => none) (fun x _ ih n => Nat.rec (motive := fun _ => Option V) (some x) (fun m _ => ih m) n) l n
noncomputable def V.isCellR (v : V) : Bool :=
  V.rec (motive_1 := fun _ => Bool) (motive_2 := fun _ => PUnit) (fun _ => true) (fun _ _ => true) (fun _ => true) (fun _ => true) (fun _ _ _ _ => true) (fun _ => true) (fun _ _ _ => true) true (fun _ _ _ => true) true (fun _ _ => false) (fun _ _ => false) ⟨⟩ (fun _ _ _ _ => ⟨⟩) v
theorem isCellR_eq (v : V) : v.isCellR = v.isCell := by cases v <;> rfl
/-- Are these so many, and each fit for a cell? -/
noncomputable def okC (l : List V) (n : Nat) : Bool :=
  List.rec (motive := fun _ => Nat → Bool) (fun n => Nat.rec (motive := fun _ => Bool) true (fun _ _ => false) n) (fun v _ ih n => Nat.rec (motive := fun _ => Bool) false (fun m _ => Bool.rec (motive := fun _ => Bool) false (ih m) v.isCellR) n) l n
noncomputable def wrR (l : List V) (n : Nat) (vs : List V) : List V :=
  List.rec (motive := fun _ => Nat → List V → List V) (fun _ _ => []) (fun c t ih n vs => Nat.rec (motive := fun _ => List V) (List.rec (motive := fun _ => List V) (c :: t) (fun v us _ => v :: ih 0 us) vs) (fun m _ => c :: ih m vs) n) l n vs

theorem dropR_eq : ∀ (l : List V) (n : Nat), dropR l n = l.drop n
  | [], n => by cases n <;> rfl
  | x :: t, 0 => rfl
  | x :: t, n + 1 => dropR_eq t n
theorem takeR_eq : ∀ (l : List V) (n : Nat), takeR l n = l.take n
  | [], n => by cases n <;> rfl
  | x :: t, 0 => rfl
  | x :: t, n + 1 => congrArg (x :: ·) (takeR_eq t n)
theorem leB_le : ∀ {l : List V} {n : Nat}, leB l n = true → n ≤ l.length
  | [], 0, _ => Nat.le_refl _
  | [], n + 1, h => by cases h
  | x :: t, 0, _ => Nat.zero_le _
  | x :: t, n + 1, h => Nat.succ_le_succ (leB_le (l := t) (n := n) h)
theorem nthR_eq : ∀ (l : List V) (n : Nat), nthR l n = l[n]?
  | [], n => by simp [nthR]
  | x :: t, 0 => rfl
  | x :: t, n + 1 => by
    have : nthR (x :: t) (n + 1) = nthR t n := rfl
    rw [this, nthR_eq t n, List.getElem?_cons_succ]
theorem okC_ok : ∀ {l : List V} {n : Nat}, okC l n = true → l.length = n ∧ l.all V.isCell = true
  | [], 0, _ => ⟨rfl, rfl⟩
  | [], n + 1, h => by cases h
  | v :: t, 0, h => by cases h
  | v :: t, n + 1, h => by
    have h' : Bool.rec (motive := fun _ => Bool) false (okC t n) v.isCellR = true := h
    rw [isCellR_eq] at h'
    cases hv : v.isCell with
    | false => rw [hv] at h'; cases h'
    | true =>
      rw [hv] at h'
      obtain ⟨a, b⟩ := okC_ok (l := t) (n := n) h'
      exact ⟨by simp [a], by simp [hv]; simpa using b⟩
theorem wrR_eq : ∀ (l : List V) (n : Nat) (vs : List V), wrR l n vs = wr l n vs
  | [], n, vs => by cases n <;> cases vs <;> rfl
  | c :: t, 0, [] => by
    have : wr (c :: t) 0 [] = c :: t := by simp [wr]
    rw [this]; rfl
  | c :: t, 0, v :: vs => by
    have : wrR (c :: t) 0 (v :: vs) = v :: wrR t 0 vs := rfl
    rw [this, wrR_eq t 0 vs]; simp [wr]
  | c :: t, n + 1, vs => by
    have : wrR (c :: t) (n + 1) vs = c :: wrR t n vs := rfl
    rw [this, wrR_eq t n vs]; simp [wr]

noncomputable def dWriteN (h : HT) (id off n : Nat) (vs : List V) : Option Do :=
  match h.blk id with
  | .cells es ro cs => match ro with
    | false => match leB cs (Nat.add off n) with
      | true => some (.set id (.cells es false (wrR cs off vs)))
      | false => none
    | true => none
  | _ => none

noncomputable def dWrite (h : HT) (id off : Nat) (vs : List V) : Option Do := dWriteN h id off vs.length vs

theorem dWriteN_ok {h : HT} {id off n : Nat} {vs : List V} {d : Do} (hn : vs.length = n) (e : dWriteN h id off n vs = some d) : h.heap.write id off vs = some (d.onH h.heap) := by
  unfold dWriteN at e
  unfold Heap.write
  rw [HT.heap_blk]
  split at e
  · rename_i es ro cs hb
    rw [hb]
    split at e
    · split at e
      · rename_i hl
        cases e
        simp only
        have hle : off + vs.length ≤ cs.length := by rw [hn]; exact leB_le hl
        rw [if_pos hle, wrR_eq]
        rfl
      · cases e
    · cases e
  · cases e

theorem dWrite_ok {h : HT} {id off : Nat} {vs : List V} {d : Do} (e : dWrite h id off vs = some d) : h.heap.write id off vs = some (d.onH h.heap) := dWriteN_ok rfl e

noncomputable def dSt (h : HT) (n : Nat) : List V → Option (V × Do)
  | [.ptr (some (id, o)), v] => match okC v.cells n with
    | true => match dWriteN h id o n v.cells with
      | some d => some (V.undef, d)
      | none => none
    | false => none
  | _ => none

theorem dSt_ok {h : HT} {n : Nat} {vs : List V} {v : V} {d : Do} (e : dSt h n vs = some (v, d)) : xSt h.heap n vs = some (v, d.onH h.heap) := by
  unfold dSt at e
  split at e
  case h_2 => cases e
  split at e
  case h_2 => cases e
  rename_i h1
  split at e
  case h_2 => cases e
  rename_i d' h3
  cases e
  obtain ⟨a, b⟩ := okC_ok h1
  simp only [xSt]
  rw [if_pos ⟨a, b⟩, dWriteN_ok a h3]
  rfl

noncomputable def HT.row (h : HT) (id off n : Nat) : Option (List V) :=
  match h.blk id with
  | .cells _ _ cs => match leB cs (Nat.add off n) with
    | true => some (takeR (dropR cs off) n)
    | false => none
  | _ => none

theorem HT.row_ok {h : HT} {id off n : Nat} {l : List V} (e : h.row id off n = some l) : h.heap.row id off n = some l := by
  unfold HT.row at e
  unfold Heap.row
  rw [HT.heap_blk]
  split at e
  · rename_i es ro cs hb
    rw [hb]
    split at e
    · rename_i hl
      cases e
      simp only
      rw [if_pos (show off + n ≤ cs.length from leB_le hl), takeR_eq, dropR_eq]
    · cases e
  · cases e

noncomputable def dAppend (esz bytes : Nat) (h : HT) (p : Option (Nat × Nat)) (len : Nat) (full : Bool) (es0 : Nat) (m : Nat) (new : List V) : Option (V × Do) :=
  match Nat.beq m 0 with
  | true => some (.slice p len full es0, .none)
  | false => match Nat.ble ((len + m) * bytes) 1099511627776 && Nat.ble (len + m) 1099511627776 with
    | false => none
    | true => match p with
      | none => some (.slice (some (h.next, 0)) (len + m) false esz, .new (.cells esz false new))
      | some (id, off) => match h.blk id with
        | .cells es ro cs => match Nat.ble (off + len * esz) cs.length && Nat.beq es esz with
          | false => none
          | true => match full with
            | true => some (.slice (some (h.next, 0)) (len + m) false esz, .new (.cells esz false ((cs.drop off).take (len * esz) ++ new)))
            | false => match ro with
              | true => none
              | false => some (.slice (some (h.next, 0)) (len + m) false esz, .move id (.cells esz false ((cs.drop off).take (len * esz) ++ new)))
        | _ => none

theorem dAppend_ok {esz bytes : Nat} {h : HT} {p : Option (Nat × Nat)} {len : Nat} {full : Bool} {es0 m : Nat} {new : List V} {v : V} {d : Do} (e : dAppend esz bytes h p len full es0 m new = some (v, d)) :
    appendV esz bytes h.heap p len full es0 m new = some (v, d.onH h.heap) := by
  unfold dAppend at e
  unfold appendV
  split at e
  · rename_i hm
    cases e
    rw [if_pos (Nat.eq_of_beq_eq_true hm)]
    rfl
  · rename_i hm
    rw [if_neg (Nat.ne_of_beq_eq_false hm)]
    split at e
    · cases e
    · rename_i hb
      rw [Bool.and_eq_true] at hb
      have e40 : (2 : Nat) ^ 40 = 1099511627776 := by decide
      rw [if_pos ⟨by rw [e40]; exact Nat.le_of_ble_eq_true hb.1, by rw [e40]; exact Nat.le_of_ble_eq_true hb.2⟩]
      split at e
      · cases e; rfl
      · rename_i id off
        simp only [HT.heap_blk]
        split at e
        · rename_i es ro cs hbl
          rw [hbl]
          split at e
          · cases e
          · rename_i hc
            rw [Bool.and_eq_true] at hc
            simp only
            rw [if_pos ⟨Nat.le_of_ble_eq_true hc.1, Nat.eq_of_beq_eq_true hc.2⟩]
            split at e
            · cases e; rfl
            · split at e
              · cases e
              · cases e; rfl
        · cases e

end Go.Cn

/- The other effects, told as what is to be done. -/
namespace Go.Cn
set_option linter.unusedVariables false
set_option linter.unusedSimpArgs false

noncomputable def dApp (h : HT) (esz bytes : Nat) : List V → Option (V × Do)
  | [.slice p len full es, .slice q m _ _] => match Nat.beq m 0 with
    | true => some (.slice p len full es, .none)
    | false => match q with
      | none => none
      | some (id, o) => match h.row id o (m * esz) with
        | some new => dAppend esz bytes h p len full es m new
        | none => none
  | _ => none

theorem dApp_ok {h : HT} {esz bytes : Nat} {vs : List V} {v : V} {d : Do} (e : dApp h esz bytes vs = some (v, d)) : xApp h.heap esz bytes vs = some (v, d.onH h.heap) := by
  unfold dApp at e
  split at e
  case h_2 => cases e
  simp only [xApp]
  split at e
  · rename_i hm
    cases e
    rw [if_pos (Nat.eq_of_beq_eq_true hm)]
    rfl
  · rename_i hm
    rw [if_neg (Nat.ne_of_beq_eq_false hm)]
    split at e
    · cases e
    · split at e
      · rename_i new hr
        simp only [HT.row_ok hr]
        exact dAppend_ok e
      · cases e

noncomputable def dAppStr (h : HT) : List V → Option (V × Do)
  | [.slice p len full es, .str s] => dAppend 1 1 h p len full es s.length (rowOfBytes s)
  | _ => none

theorem dAppStr_ok {h : HT} {vs : List V} {v : V} {d : Do} (e : dAppStr h vs = some (v, d)) : xAppStr h.heap vs = some (v, d.onH h.heap) := by
  unfold dAppStr at e
  split at e
  case h_2 => cases e
  exact dAppend_ok e

noncomputable def dCpy (h : HT) (esz : Nat) : List V → Option (V × Do)
  | [.slice p len _ _, .slice q m _ _] => match Nat.beq (min m len) 0 with
    | true => some (.int .i64 0, .none)
    | false => match p, q with
      | some (id, o), some (id', o') => match h.row id' o' (min m len * esz) with
        | some new => match dWrite h id o new with
          | some d => some (.int .i64 (min m len : Nat), d)
          | none => none
        | none => none
      | _, _ => none
  | _ => none

theorem dCpy_ok {h : HT} {esz : Nat} {vs : List V} {v : V} {d : Do} (e : dCpy h esz vs = some (v, d)) : xCpy h.heap esz vs = some (v, d.onH h.heap) := by
  unfold dCpy at e
  split at e
  case h_2 => cases e
  simp only [xCpy]
  split at e
  · rename_i hm
    cases e
    rw [if_pos (Nat.eq_of_beq_eq_true hm)]
    rfl
  · rename_i hm
    rw [if_neg (Nat.ne_of_beq_eq_false hm)]
    split at e
    · split at e
      · rename_i new hr
        split at e
        · rename_i d' hd
          cases e
          simp only [HT.row_ok hr, dWrite_ok hd]
          rfl
        · cases e
      · cases e
    · cases e

noncomputable def dClr (h : HT) (zero : List V) : List V → Option (V × Do)
  | [.slice p len _ _] => match Nat.beq len 0 with
    | true => some (.tuple [], .none)
    | false => match p with
      | some (id, o) => match dWrite h id o (List.replicate len zero).flatten with
        | some d => some (.tuple [], d)
        | none => none
      | none => none
  | _ => none

theorem dClr_ok {h : HT} {zero : List V} {vs : List V} {v : V} {d : Do} (e : dClr h zero vs = some (v, d)) : xClr h.heap zero vs = some (v, d.onH h.heap) := by
  unfold dClr at e
  split at e
  case h_2 => cases e
  simp only [xClr]
  split at e
  · rename_i hm
    cases e
    rw [if_pos (Nat.eq_of_beq_eq_true hm)]
    rfl
  · rename_i hm
    rw [if_neg (Nat.ne_of_beq_eq_false hm)]
    split at e
    · split at e
      · rename_i d' hd
        cases e
        simp only [dWrite_ok hd]
        rfl
      · cases e
    · cases e

noncomputable def dMset (h : HT) (g : Bool) (ks : List LeafK) : List V → Option (V × Do)
  | [.map (some id), k, v] => match h.blk id with
    | .map es clock => match keyFit g ks k with
      | false => none
      | true => match findE g ks k es with
        | some (some (i, _, _)) => some (V.undef, .set id (.map (es.set i (k, v, ((es[i]?).map (·.2.2)).getD 0)) clock))
        | some none => some (V.undef, .set id (.map (es ++ [(k, v, clock)]) (clock + 1)))
        | none => none
    | _ => none
  | _ => none

theorem dMset_ok {h : HT} {g : Bool} {ks : List LeafK} {vs : List V} {v : V} {d : Do} (e : dMset h g ks vs = some (v, d)) : xMset h.heap g ks vs = some (v, d.onH h.heap) := by
  unfold dMset at e
  split at e
  case h_2 => cases e
  simp only [xMset, HT.heap_blk]
  split at e
  case h_2 => cases e
  rename_i es clock hb
  rw [hb]
  split at e
  · cases e
  · rename_i hf
    simp only [hf]
    rw [if_neg (by simp)]
    split at e
    · rename_i hfe; cases e; simp only [hfe]; rfl
    · rename_i hfe; cases e; simp only [hfe]; rfl
    · cases e

noncomputable def dDel (h : HT) (g : Bool) (ks : List LeafK) : List V → Option (V × Do)
  | [.map (some id), k] => match h.blk id with
    | .map es clock => match keyFit g ks k with
      | false => none
      | true => match findE g ks k es with
        | some (some (i, _, _)) => some (.tuple [], .set id (.map (es.eraseIdx i) clock))
        | some none => some (.tuple [], .none)
        | none => none
    | _ => none
  | _ => none

theorem dDel_ok {h : HT} {g : Bool} {ks : List LeafK} {vs : List V} {v : V} {d : Do} (e : dDel h g ks vs = some (v, d)) : xDel h.heap g ks vs = some (v, d.onH h.heap) := by
  unfold dDel at e
  split at e
  case h_2 => cases e
  simp only [xDel, HT.heap_blk]
  split at e
  case h_2 => cases e
  rename_i es clock hb
  rw [hb]
  split at e
  · cases e
  · rename_i hf
    simp only [hf]
    rw [if_neg (by simp)]
    split at e
    · rename_i hfe; cases e; simp only [hfe]; rfl
    · rename_i hfe; cases e; simp only [hfe]; rfl
    · cases e

/-- What is to be done by a kind that acts. -/
noncomputable def Kind.todo (h : HT) (k : Kind) : List V → Option (V × Do) :=
  match k with
  | .st n => dSt h n
  | .app esz bytes => dApp h esz bytes
  | .appStr => dAppStr h
  | .cpy esz => dCpy h esz
  | .clr zero => dClr h zero
  | .mset g ks => dMset h g ks
  | .del g ks => dDel h g ks
  | _ => fun _ => none

theorem Kind.todo_ok {h : HT} {k : Kind} {vs : List V} {v : V} {d : Do} (e : k.todo h vs = some (v, d)) : k.ef h.heap vs = some (v, d.onH h.heap) := by
  cases k <;> first | (cases e; done) | skip
  · exact dSt_ok e
  · exact dApp_ok e
  · exact dAppStr_ok e
  · exact dCpy_ok e
  · exact dMset_ok e
  · exact dDel_ok e
  · exact dClr_ok e

end Go.Cn
