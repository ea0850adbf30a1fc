/- A new cluster: what is seen of it. -/
import Derived.Test.YtlnpgjfdlefmoaaGreatDoorStill
import Derived.Test.YtlnpgjfdlefmoaaGreatDoorCnShift
import Derived.Test.YtlnpgjfdlefmoaaGreatDoorCnCut
namespace Go.Cn
set_option linter.unusedVariables false
set_option linter.unusedSimpArgs false

def lookB (l : List (Nat × Blk)) (id : Nat) : Option Blk := (l.find? fun x => x.1 == id).map (·.2)

def stillB (l : List (Nat × Blk)) (x : Nat) : Bool :=
  match lookB l x with
  | some (Blk.cells es ro ncs) => (es == 0 && (!ro && sameVs ((ncs.drop 55).take 7) z7)) && (match ncs[4]? with
    | some (V.ptr (some (co, o))) => o == 0 && (match lookB l co with
      | some (Blk.cells es ro ccs) => (es == 0 && !ro) && (match ccs[2]? with
        | some (V.ptr (some (lg, o))) => o == 0 && (match lookB l lg with
          | some (Blk.cells es ro lcs) => (es == 0 && (!ro && sameVs ((lcs.drop 1).take 7) z7)) && (match lcs[0]? with
            | some (V.map (some m)) => (match lookB l m with
              | some (Blk.map es ck) => es.isEmpty
              | _ => false)
            | _ => false)
          | _ => false)
        | _ => false)
      | _ => false)
    | _ => false)
  | _ => false

def isStill (l : List (Nat × Blk)) : V → Bool
  | .ptr (some (x, o)) => o == 0 && stillB l x
  | _ => false

def coldB (l : List (Nat × Blk)) (k c : Nat) : Bool :=
  match lookB l c with
  | some (Blk.cells es ro [a0, v1, .slice (some (nb, o)) k' f1 e1, v3, v4, s5, s6]) =>
    (es == 0 && (!ro && (sameV a0 (ni k) && (o == 0 && (k' == k && (sameV s5 (.slice none 0 true 0) && sameV s6 (.slice none 0 true 0))))))) && (match lookB l nb with
      | some (Blk.cells es ro xs) => es == 1 && (!ro && (xs.length == k && xs.all (isStill l)))
      | _ => false)
  | _ => false

/-- The blocks of a list stand in a heap. -/
def Told (l : List (Nat × Blk)) (H : Heap) : Prop := ∀ id B, lookB l id = some B → H.blk id = B ∧ id < H.next

theorem still_of {l : List (Nat × Blk)} {H : Heap} (ht : Told l H) {x : Nat} (h : stillB l x = true) : Still x H := by
  unfold stillB at h
  split at h
  case h_2 => cases h
  rename_i es ro ncs h1
  rw [Bool.and_eq_true] at h
  obtain ⟨h2, h⟩ := h
  split at h
  case h_2 => cases h
  rename_i co o h3
  rw [Bool.and_eq_true] at h
  obtain ⟨h4, h⟩ := h
  split at h
  case h_2 => cases h
  rename_i es2 ro2 ccs h5
  rw [Bool.and_eq_true] at h
  obtain ⟨h6, h⟩ := h
  split at h
  case h_2 => cases h
  rename_i lg o2 h7
  rw [Bool.and_eq_true] at h
  obtain ⟨h8, h⟩ := h
  split at h
  case h_2 => cases h
  rename_i es3 ro3 lcs h9
  rw [Bool.and_eq_true] at h
  obtain ⟨h10, h⟩ := h
  split at h
  case h_2 => cases h
  rename_i m h11
  split at h
  case h_2 => cases h
  rename_i mes ck h12
  simp only [Bool.and_eq_true, beq_iff_eq, Bool.not_eq_true'] at h2 h4 h6 h8 h10
  obtain ⟨rfl, rfl, q1⟩ := h2
  obtain ⟨rfl, rfl⟩ := h6
  obtain ⟨rfl, rfl, q2⟩ := h10
  subst h4; subst h8
  have hm : mes = [] := by simpa using h
  subst hm
  exact ⟨ncs, co, ccs, lg, lcs, m, ck, (ht _ _ h1).1, sameVs_ok q1, h3, (ht _ _ h5).1, h7, (ht _ _ h9).1, h11, sameVs_ok q2, (ht _ _ h12).1, (ht _ _ h1).2, (ht _ _ h5).2, (ht _ _ h9).2, (ht _ _ h12).2⟩

/-- A cluster that did nothing. -/
structure Cold (k c nb : Nat) (H : Heap) : Prop where
  idle : Idle k c nb H
  still : ∃ xs, H.blk nb = .cells 1 false xs ∧ xs.length = k ∧ ∀ x ∈ xs, ∃ i, x = .ptr (some (i, 0)) ∧ Still i H

theorem Cold.grow {k c nb : Nat} {H H' : Heap} (h : Cold k c nb H) (g : Grow H H') : Cold k c nb H' := by
  obtain ⟨h1, xs, h2, h3, h4⟩ := h
  exact ⟨h1.grow g, xs, by rw [g.old _ h1.lt.2]; exact h2, h3, fun x hx => let ⟨i, a, b⟩ := h4 x hx; ⟨i, a, b.grow g⟩⟩

theorem cold_of {l : List (Nat × Blk)} {H : Heap} (ht : Told l H) {k c : Nat} (hk : k ≤ 7) (h : coldB l k c = true) : ∃ nb, Cold k c nb H := by
  unfold coldB at h
  split at h
  case h_2 => cases h
  rename_i es ro a0 v1 nb o k' f1 e1 v3 v4 s5 s6 h1
  rw [Bool.and_eq_true] at h
  obtain ⟨h2, h⟩ := h
  split at h
  case h_2 => cases h
  rename_i es2 ro2 xs h3
  simp only [Bool.and_eq_true, beq_iff_eq, Bool.not_eq_true'] at h2 h
  obtain ⟨rfl, rfl, q1, rfl, rfl, q2, q3⟩ := h2
  obtain ⟨rfl, rfl, q4, q5⟩ := h
  rw [sameV_ok q1, sameV_ok q2, sameV_ok q3] at h1
  have key : ∀ x ∈ xs, ∃ i, x = .ptr (some (i, 0)) ∧ Still i H := by
    intro x hx
    have := List.all_eq_true.1 q5 x hx
    unfold isStill at this
    split at this
    case h_2 => cases this
    rename_i x o
    simp only [Bool.and_eq_true, beq_iff_eq] at this
    obtain ⟨rfl, q⟩ := this
    exact ⟨x, rfl, still_of ht q⟩
  exact ⟨nb, ⟨hk, ⟨v1, f1, e1, v3, v4, (ht _ _ h1).1⟩, ⟨xs, (ht _ _ h3).1, q4, fun x hx => let ⟨i, a, _⟩ := key x hx; ⟨_, a⟩⟩, (ht _ _ h1).2, (ht _ _ h3).2⟩, xs, (ht _ _ h3).1, q4, key⟩

theorem z7_shift (n : Nat) : shiftL n z7 = z7 := rfl

theorem shiftL_get (n : Nat) (l : List V) (i : Nat) : (shiftL n l)[i]? = (l[i]?).map (V.shift n) := by rw [shiftL_map, List.getElem?_map]
theorem shiftL_row (n : Nat) (l : List V) (o m : Nat) : ((shiftL n l).drop o).take m = shiftL n ((l.drop o).take m) := by rw [shiftL_map, shiftL_map, ← List.map_drop, ← List.map_take]

theorem Still.shift {x : Nat} {H1 : Heap} (h : Still x H1) (H : Heap) : Still (x + H.next) (H.cat H1) := by
  obtain ⟨ncs, co, ccs, lg, lcs, m, ck, h1, h2, h3, h4, h5, h6, h7, h8, h9, l1, l2, l3, l4⟩ := h
  refine ⟨shiftL H.next ncs, co + H.next, shiftL H.next ccs, lg + H.next, shiftL H.next lcs, m + H.next, ck, ?_, ?_, ?_, ?_, ?_, ?_, ?_, ?_, ?_, ?_, ?_, ?_, ?_⟩
  · rw [cat_blk, h1]; rfl
  · rw [shiftL_row, h2]; rfl
  · rw [shiftL_get, h3]; rfl
  · rw [cat_blk, h4]; rfl
  · rw [shiftL_get, h5]; rfl
  · rw [cat_blk, h6]; rfl
  · rw [shiftL_get, h7]; rfl
  · rw [shiftL_row, h8]; rfl
  · rw [cat_blk, h9]; rfl
  all_goals (show _ < H.next + H1.next; omega)

theorem Cold.shift {k c nb : Nat} {H1 : Heap} (h : Cold k c nb H1) (H : Heap) : Cold k (c + H.next) (nb + H.next) (H.cat H1) := by
  obtain ⟨⟨h0, ⟨v1, f1, e1, v3, v4, h1⟩, _, l1, l2⟩, xs, h2, h3, h4⟩ := h
  have key : ∀ x ∈ shiftL H.next xs, ∃ i, x = .ptr (some (i, 0)) ∧ Still i (H.cat H1) := by
    intro x hx
    rw [shiftL_map] at hx
    obtain ⟨u, hu, rfl⟩ := List.mem_map.1 hx
    obtain ⟨i, rfl, hs⟩ := h4 u hu
    exact ⟨i + H.next, rfl, hs.shift H⟩
  have hxs : (H.cat H1).blk (nb + H.next) = .cells 1 false (shiftL H.next xs) := by rw [cat_blk, h2]; rfl
  have hln : (shiftL H.next xs).length = k := by rw [shiftL_map, List.length_map, h3]
  refine ⟨⟨h0, ⟨v1.shift H.next, f1, e1, v3.shift H.next, v4.shift H.next, by rw [cat_blk, h1]; rfl⟩, ⟨_, hxs, hln, fun x hx => let ⟨i, a, _⟩ := key x hx; ⟨_, a⟩⟩, ?_, ?_⟩, _, hxs, hln, key⟩
  all_goals (show _ < H.next + H1.next; omega)

def notRo : Blk → Bool
  | .cells _ ro _ => !ro
  | _ => true

noncomputable def noRoB (h : HT) : Nat → Bool
  | 0 => true
  | i + 1 => notRo (h.blk i) && noRoB h i

theorem noRo_of {h : HT} : ∀ {n : Nat}, noRoB h n = true → ∀ i es cs, i < n → h.blk i ≠ .cells es true cs
  | 0, _, i, es, cs, hi => by omega
  | n + 1, e, i, es, cs, hi => by
    simp only [noRoB, Bool.and_eq_true] at e
    by_cases hin : i = n
    · subst hin
      intro h1
      rw [h1] at e
      cases e.1
    · exact noRo_of e.2 i es cs (by omega)

/-- Is a new cluster what it must be? -/
noncomputable def newB (k n : Nat) (l : List (Nat × Blk)) (r : Option J) : Bool :=
  match r with
  | some j => match j with
    | ⟨_, us, h⟩ => match us with
      | v :: _ => sameV v (.tuple [.ptr (some (0, 0)), zz]) && (Nat.beq h.next n && (agrees h l && (l.all (fun x => Nat.blt x.1 n) && (noRoB h n && coldB l k 0))))
      | [] => false
  | none => false

theorem agrees_told {h : HT} {n : Nat} (hn : h.next = n) : ∀ {l : List (Nat × Blk)}, agrees h l = true → l.all (fun x => Nat.blt x.1 n) = true → Told l h.heap
  | [], _, _, id, B, e => by simp [lookB] at e
  | x :: l, e, e2, id, B, eq => by
    simp only [agrees, Bool.and_eq_true] at e
    simp only [List.all_cons, Bool.and_eq_true] at e2
    unfold lookB at eq
    rw [List.find?_cons] at eq
    split at eq
    · rename_i hx
      simp only [beq_iff_eq] at hx
      cases eq
      subst hx
      refine ⟨sameB_ok e.1, ?_⟩
      show x.1 < h.next
      rw [hn]
      exact Nat.le_of_ble_eq_true e2.1
    · exact agrees_told hn e.2 e2.2 id B eq

theorem new_of {P : Program} {f : List V → HT → Option J} (ok : FnOk P 18 f) {k n : Nat} {l : List (Nat × Blk)} (hk : k ≤ 7) (h : newB k n l (f [ni k] h00) = true) (H : Heap) :
    CallT P 18 [ni k] H fun v H' => ∃ c nb, v = .tuple [.ptr (some (c, 0)), ni 0] ∧ Cold k c nb H' ∧ Grow H H' := by
  unfold newB at h
  split at h
  case h_2 => cases h
  rename_i j hj
  split at h
  rename_i jn us h'
  split at h
  case h_2 => cases h
  rename_i v us'
  simp only [Bool.and_eq_true] at h
  obtain ⟨h1, h2, h3, h4, h5, h6⟩ := h
  have hn := Nat.eq_of_beq_eq_true h2
  have hc := ok.ok _ _ _ _ _ _ hj
  rw [sameV_ok h1] at hc
  obtain ⟨nb, hcold⟩ := cold_of (agrees_told hn h3 h4) hk h6
  refine (CallT.beside (fun v hv => .inl ?_) (fun i es cs hi => noRo_of h5 i es cs (by rw [← hn]; exact hi)) hc H).mono ?_
  · simp only [List.mem_singleton] at hv; exact ⟨_, _, hv⟩
  · rintro v H' ⟨rfl, rfl⟩
    refine ⟨0 + H.next, nb + H.next, rfl, hcold.shift H, cat_grow _ _⟩
end Go.Cn
