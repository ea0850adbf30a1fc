/- A long row of calls cut into pieces: between two pieces stands a heap that is told block by block. -/
import Derived.Test.YtlnpgjfdlefmoaaGreatDoorCnDeepOk
import Derived.Test.YtlnpgjfdlefmoaaGreatDoorCnCon
namespace Go.Cn
set_option linter.unusedVariables false
set_option linter.unusedSimpArgs false

/-- Blocks told one by one, and what stands beside them. -/
noncomputable def layH (n : Nat) (l : List (Nat × Blk)) (g : Nat → Blk) : HT := ⟨n, flushC l .leaf, [], nat_lit 0, g⟩

theorem layH_blk (n : Nat) (l : List (Nat × Blk)) (g : Nat → Blk) (i : Nat) : (layH n l g).blk i = if inReach i = true then findC l i (g i) else g i := by
  unfold HT.blk
  cases hi : inReach i with
  | false => rfl
  | true =>
    show findC [] i (blkO ((flushC l .leaf).getR i) (g i)) = _
    rw [if_pos rfl]
    show blkO ((flushC l .leaf).getR i) (g i) = _
    rw [flush_get hi]
    rfl

def sameVs : List V → List V → Bool
  | [], [] => true
  | a :: l, b :: m => sameV a b && sameVs l m
  | _, _ => false

theorem sameVs_ok : ∀ {l m : List V}, sameVs l m = true → l = m
  | [], [], _ => rfl
  | a :: l, b :: m, h => by
    simp only [sameVs, Bool.and_eq_true] at h
    rw [sameV_ok h.1, sameVs_ok h.2]
  | [], _ :: _, h => by cases h
  | _ :: _, [], h => by cases h

def sameEs : List (V × V × Nat) → List (V × V × Nat) → Bool
  | [], [] => true
  | a :: l, b :: m => sameV a.1 b.1 && (sameV a.2.1 b.2.1 && (Nat.beq a.2.2 b.2.2 && sameEs l m))
  | _, _ => false

theorem sameEs_ok : ∀ {l m : List (V × V × Nat)}, sameEs l m = true → l = m
  | [], [], _ => rfl
  | ⟨a, b, c⟩ :: l, ⟨a', b', c'⟩ :: m, h => by
    simp only [sameEs, Bool.and_eq_true] at h
    rw [sameV_ok h.1, sameV_ok h.2.1, Nat.eq_of_beq_eq_true h.2.2.1, sameEs_ok h.2.2.2]
  | [], _ :: _, h => by cases h
  | _ :: _, [], h => by cases h

def sameB : Blk → Blk → Bool
  | .cells e r l, .cells e' r' l' => Nat.beq e e' && (r == r' && sameVs l l')
  | .map l c, .map l' c' => Nat.beq c c' && sameEs l l'
  | .dead, .dead => true
  | _, _ => false

theorem sameB_ok {a b : Blk} (h : sameB a b = true) : a = b := by
  cases a <;> cases b <;> simp only [sameB, Bool.and_eq_true, beq_iff_eq, Bool.false_eq_true] at h
  · rw [Nat.eq_of_beq_eq_true h.1, h.2.1, sameVs_ok h.2.2]
  · rw [Nat.eq_of_beq_eq_true h.1, sameEs_ok h.2]
  · rfl

noncomputable def agrees (h : HT) : List (Nat × Blk) → Bool
  | [] => true
  | x :: l => sameB (h.blk x.1) x.2 && agrees h l

theorem agrees_find {h : HT} : ∀ {l : List (Nat × Blk)}, agrees h l = true → ∀ i, findC l i (h.blk i) = h.blk i
  | [], _, i => rfl
  | x :: l, e, i => by
    simp only [agrees, Bool.and_eq_true] at e
    rw [findC_cons, agrees_find e.2 i]
    by_cases hi : x.1 = i
    · rw [if_pos hi, ← sameB_ok e.1, hi]
    · rw [if_neg hi]

theorem layH_same {h : HT} {n : Nat} {l : List (Nat × Blk)} (hn : h.next = n) (e : agrees h l = true) : (layH n l h.blk).heap = h.heap := by
  unfold HT.heap
  rw [← hn]
  congr 1
  funext i
  rw [layH_blk, agrees_find e]
  split <;> rfl

/-- Calls one behind the other, of which nothing is handed back. -/
inductive SeqT (P : Program) (f : FuncId) (vs : List V) (r : V) : Nat → Heap → Heap → Prop where
  | zero (H : Heap) : SeqT P f vs r 0 H H
  | succ {k : Nat} {H H1 H2 : Heap} (h : CallT P f vs H fun v H' => v = r ∧ H' = H1) (h' : SeqT P f vs r k H1 H2) : SeqT P f vs r (k + 1) H H2

theorem SeqT.trans {P : Program} {f : FuncId} {vs : List V} {r : V} {k m : Nat} {H H1 H2 : Heap} (h : SeqT P f vs r k H H1) (h' : SeqT P f vs r m H1 H2) : SeqT P f vs r (k + m) H H2 := by
  induction h with
  | zero H => rw [Nat.zero_add]; exact h'
  | succ c _ ih => rw [Nat.succ_add]; exact .succ c (ih h')

noncomputable def stepF (f : List V → HT → Option J) (vs : List V) (r : V) (h : HT) : Option HT :=
  match f vs h with
  | some j => match j with
    | ⟨_, us, h'⟩ => match us with
      | v :: _ => match sameV v r with
        | true => some h'
        | false => none
      | [] => none
  | none => none

theorem stepF_ok {P : Program} {i : FuncId} {f : List V → HT → Option J} (ok : FnOk P i f) {vs : List V} {r : V} {h h' : HT} (e : stepF f vs r h = some h') : CallT P i vs h.heap fun v H' => v = r ∧ H' = h'.heap := by
  unfold stepF at e
  split at e
  case h_2 => cases e
  rename_i j hj
  split at e
  rename_i n us h1
  split at e
  case h_2 => cases e
  rename_i v l
  split at e
  case h_2 => cases e
  rename_i hs
  cases e
  have := ok.ok _ _ _ _ _ _ hj
  rw [sameV_ok hs] at this
  exact this

noncomputable def goesN (f : List V → HT → Option J) (vs : List V) (r : V) : Nat → HT → Option HT
  | 0, h => some h
  | k + 1, h => match stepF f vs r h with
    | some h' => goesN f vs r k h'
    | none => none

theorem goesN_ok {P : Program} {i : FuncId} {f : List V → HT → Option J} (ok : FnOk P i f) {vs : List V} {r : V} : ∀ {k : Nat} {h h' : HT}, goesN f vs r k h = some h' → SeqT P i vs r k h.heap h'.heap
  | 0, h, h', e => by cases e; exact .zero _
  | k + 1, h, h', e => by
    simp only [goesN] at e
    split at e
    case h_2 => cases e
    rename_i h1 e1
    exact .succ (stepF_ok ok e1) (goesN_ok ok e)

/-- Does a piece end where it must? -/
noncomputable def ends (n : Nat) (l : List (Nat × Blk)) (o : Option HT) : Bool :=
  match o with
  | some h => Nat.beq h.next n && agrees h l
  | none => false

theorem ends_ok {n : Nat} {l : List (Nat × Blk)} {o : Option HT} (e : ends n l o = true) : ∃ h, o = some h ∧ h.heap = (layH n l h.blk).heap := by
  unfold ends at e
  split at e
  · rename_i h
    simp only [Bool.and_eq_true] at e
    exact ⟨h, rfl, (layH_same (Nat.eq_of_beq_eq_true e.1) e.2).symm⟩
  · cases e

theorem chunk_ok {P : Program} {i : FuncId} {f : List V → HT → Option J} (ok : FnOk P i f) {vs : List V} {r : V} {k n n' : Nat} {l l' : List (Nat × Blk)} (e : ∀ g, ends n' l' (goesN f vs r k (layH n l g)) = true) (g : Nat → Blk) :
    ∃ g', SeqT P i vs r k (layH n l g).heap (layH n' l' g').heap := by
  obtain ⟨h, h1, h2⟩ := ends_ok (e g)
  exact ⟨h.blk, h2 ▸ goesN_ok ok h1⟩

/-! ### Short words -/
def zz : V := .int .i64 (.ofNat 0)
def ii (n : Nat) : V := .int .i64 (.ofNat n)
def uu (n : Nat) : V := .int .u8 (.ofNat n)
def ee : V := .str []

end Go.Cn
