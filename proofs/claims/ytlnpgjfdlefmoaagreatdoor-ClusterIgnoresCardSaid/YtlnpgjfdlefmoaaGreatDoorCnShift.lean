/- A call that is handed no memory does the same beside whatever is there: its blocks get later numbers. -/
import Derived.Test.YtlnpgjfdlefmoaaGreatDoorCnClosed
import Derived.Test.YtlnpgjfdlefmoaaGreatDoorCnGrow
namespace Go.Cn
set_option linter.unusedVariables false
set_option linter.unusedSimpArgs false

mutual
def V.shift (n : Nat) : V → V
  | .bool b => .bool b
  | .int k x => .int k x
  | .str s => .str s
  | .ptr none => .ptr none
  | .ptr (some p) => .ptr (some (p.1 + n, p.2))
  | .slice none l f e => .slice none l f e
  | .slice (some p) l f e => .slice (some (p.1 + n, p.2)) l f e
  | .map none => .map none
  | .map (some i) => .map (some (i + n))
  | .func f cs => .func f (shiftL n cs)
  | .nilFunc => .nilFunc
  | .iface t v => .iface t (v.shift n)
  | .nilIface => .nilIface
  | .agg cs => .agg (shiftL n cs)
  | .tuple cs => .tuple (shiftL n cs)
def shiftL (n : Nat) : List V → List V
  | [] => []
  | v :: vs => v.shift n :: shiftL n vs
end

theorem shiftL_map (n : Nat) : ∀ l, shiftL n l = l.map (V.shift n)
  | [] => rfl
  | v :: l => by simp only [shiftL, List.map_cons, shiftL_map n l]

theorem shift_cell (n : Nat) (v : V) : (v.shift n).isCell = v.isCell := by
  cases v with
  | ptr p => cases p <;> rfl
  | slice p l f e => cases p <;> rfl
  | map r => cases r <;> rfl
  | _ => rfl

def Blk.shift (n : Nat) : Blk → Blk
  | .cells es ro cs => .cells es ro (shiftL n cs)
  | .map es c => .map (es.map fun x => (x.1.shift n, x.2.1.shift n, x.2.2)) c
  | .iter m s l t => .iter (m + n) s l t
  | .dead => .dead

def Heap.cat (H H1 : Heap) : Heap := ⟨H.next + H1.next, fun i => if i < H.next then H.blk i else (H1.blk (i - H.next)).shift H.next⟩

theorem VRel.shift {ρ1 ρ' : Ren} {n : Nat} (hk : ∀ i, ρ1 i ≠ .out → ρ' (i + n) = ρ1 i ∨ ρ' (i + n) = .dead) {v : V} {x : Value} (h : VRel ρ1 v x) : VRel ρ' (v.shift n) x := by
  induction h with
  | bool b => exact .bool b
  | int k n => exact .int k n
  | str h => exact .str h
  | ptr hp =>
    cases hp with
    | nil => exact .ptr .nil
    | dead a e => rcases hk _ (by rw [e]; simp) with e' | e'
                  · exact .ptr (.dead a (e'.trans e))
                  · exact .ptr (.dead a e')
    | live e => rcases hk _ (by rw [e]; simp) with e' | e'
                · exact .ptr (.live (e'.trans e))
                · exact .ptr (.dead _ e')
  | slice hp =>
    cases hp with
    | nil => exact .slice .nil
    | dead a e h1 h2 => rcases hk _ (by rw [e]; simp) with e' | e'
                        · exact .slice (.dead a (e'.trans e) h1 h2)
                        · exact .slice (.dead a e' h1 h2)
    | live e h1 h2 h3 h4 => rcases hk _ (by rw [e]; simp) with e' | e'
                            · exact .slice (.live (e'.trans e) h1 h2 h3 h4)
                            · exact .slice (.dead _ e' h1 h2)
  | mapNil => exact .mapNil
  | map e => rcases hk _ (by rw [e]; simp) with e' | e'
             · exact .map (e'.trans e)
             · exact .mapDead _ e'
  | mapDead b e => rcases hk _ (by rw [e]; simp) with e' | e'
                   · exact .mapDead b (e'.trans e)
                   · exact .mapDead b e'
  | func hn _ ih =>
    simp only [V.shift, shiftL_map]
    refine .func (by simpa using hn) fun i v v' a b => ?_
    rw [List.getElem?_map] at a
    obtain ⟨u, hu, rfl⟩ := Option.map_eq_some_iff.1 a
    exact ih i u v' hu b
  | nilFunc => exact .nilFunc
  | iface _ ih => exact .iface ih
  | nilIface => exact .nilIface
  | agg hc hn _ ih =>
    simp only [V.shift, shiftL_map]
    refine .agg (fun v hv => ?_) (by simpa using hn) fun i v v' a b => ?_
    · obtain ⟨u, hu, rfl⟩ := List.mem_map.1 hv
      rw [shift_cell]; exact hc u hu
    · rw [List.getElem?_map] at a
      obtain ⟨u, hu, rfl⟩ := Option.map_eq_some_iff.1 a
      exact ih i u v' hu b
  | tuple hn _ ih =>
    simp only [V.shift, shiftL_map]
    refine .tuple (by simpa using hn) fun i v v' a b => ?_
    rw [List.getElem?_map] at a
    obtain ⟨u, hu, rfl⟩ := Option.map_eq_some_iff.1 a
    exact ih i u v' hu b

theorem BlkRel.shift {ρ1 ρ' : Ren} {n : Nat} {w : World} (hk : ∀ i, ρ1 i ≠ .out → ρ' (i + n) = ρ1 i ∨ ρ' (i + n) = .dead) {b o m es : Nat} {ro : Bool} {B : Blk} (h : BlkRel ρ1 w b o m es ro B) : BlkRel ρ' w b o m es ro (B.shift n) := by
  cases B with
  | cells es' ro' cs =>
    obtain ⟨h1, h2, h3, c, h4, h5, h6⟩ := h
    refine ⟨h1, h2, ?_, c, h4, by rw [shiftL_map, List.length_map]; exact h5, fun i v hv => ?_⟩
    · intro v hv
      rw [shiftL_map] at hv
      obtain ⟨u, hu, rfl⟩ := List.mem_map.1 hv
      rw [shift_cell]; exact h3 u hu
    · rw [shiftL_map, List.getElem?_map] at hv
      obtain ⟨u, hu, rfl⟩ := Option.map_eq_some_iff.1 hv
      obtain ⟨v', a, b⟩ := h6 i u hu
      exact ⟨v', a, b.shift hk⟩
  | map l c =>
    obtain ⟨h1, h2, l', h3, h4, h5⟩ := h
    refine ⟨h1, h2, l', h3, by rw [List.length_map]; exact h4, fun i k v s hi => ?_⟩
    rw [List.getElem?_map] at hi
    obtain ⟨u, hu, he⟩ := Option.map_eq_some_iff.1 hi
    obtain ⟨a, b, c⟩ := u
    cases he
    obtain ⟨e, g1, g2, g3, g4⟩ := h5 i a b c hu
    exact ⟨e, g1, g2.shift hk, g3.shift hk, g4⟩
  | iter m s l t =>
    obtain ⟨h1, h2, bm, h3, h4⟩ := h
    refine ⟨h1, h2, bm, h3, ?_⟩
    rcases h4 with h4 | ⟨r, nm, em, h4⟩
    · rcases hk m (by rw [h4]; simp) with e | e
      · exact .inl (e.trans h4)
      · exact .inl e
    · rcases hk m (by rw [h4]; simp) with e | e
      · exact .inr ⟨r, nm, em, e.trans h4⟩
      · exact .inl e
  | dead => trivial

/-- No block may not be written. -/
def NoRo (H : Heap) : Prop := ∀ i es cs, i < H.next → H.blk i ≠ .cells es true cs

open Classical in
theorem CallT.beside {P : Program} {f : FuncId} {vs : List V} {v0 : V} {H1 : Heap} (hs : ∀ v ∈ vs, (∃ k n, v = .int k n) ∨ ∃ b, v = .bool b) (hro : NoRo H1) (h : CallT P f vs h00.heap fun v H' => v = v0 ∧ H' = H1) (H : Heap) :
    CallT P f vs H fun v H' => v = v0.shift H.next ∧ H' = H.cat H1 := by
  intro ρ w args hr ha
  refine Calls.mono (h (fun _ => .out) w args (rel_none w) ⟨ha.1, fun i v v' h1 h2 => by
    have := ha.2 i v v' h1 h2
    rcases hs v (List.mem_of_getElem? h1) with ⟨k, n, rfl⟩ | ⟨b, rfl⟩
    · cases this; exact .int k n
    · cases this; exact .bool b⟩) ?_
  rintro e w' ⟨ρ1, v, v', H', rfl, hv, hr1, hx, rfl, rfl⟩
  have hfr : ∀ b, b < w.heap.size → w'.heap[b]? = w.heap[b]? := fun b hb => hx.frame b hb (fun id o n es hh => by cases hh)
  let ρ' : Ren := fun i => if i < H.next then ρ i else if H'.blk (i - H.next) = .dead then (if ρ1 (i - H.next) = .out then .out else .dead) else ρ1 (i - H.next)
  have lo : ∀ {i}, i < H.next → ρ' i = ρ i := fun hi => if_pos hi
  have hk : ∀ i, ρ1 i ≠ .out → ρ' (i + H.next) = ρ1 i ∨ ρ' (i + H.next) = .dead := by
    intro i hi
    have e1 : ρ' (i + H.next) = if H'.blk i = .dead then (if ρ1 i = .out then .out else .dead) else ρ1 i := by
      show (if i + H.next < H.next then _ else _) = _
      rw [if_neg (by omega), Nat.add_sub_cancel]
    rw [e1]
    by_cases hd : H'.blk i = .dead
    · rw [if_pos hd, if_neg hi]; exact .inr rfl
    · rw [if_neg hd]; exact .inl rfl
  have hi' : ∀ {i ro b o n es}, ¬ i < H.next → ρ' i = .live ro b o n es → ρ1 (i - H.next) = .live ro b o n es ∧ ro = false ∧ w.heap.size ≤ b := by
    intro i ro b o n es hi h
    have h : (if i < H.next then ρ i else if H'.blk (i - H.next) = .dead then (if ρ1 (i - H.next) = .out then .out else .dead) else ρ1 (i - H.next)) = .live ro b o n es := h
    rw [if_neg hi] at h
    by_cases hd : H'.blk (i - H.next) = .dead
    · rw [if_pos hd] at h; split at h <;> cases h
    · rw [if_neg hd] at h
      have hro' : ro = false := by
        have hB := hr1.blk h
        cases hb : H'.blk (i - H.next) with
        | cells es' ro' cs =>
          rw [hb] at hB
          obtain ⟨_, h2, _⟩ := hB
          subst h2
          cases ro' with
          | false => rfl
          | true => exact absurd hb (hro _ _ _ (hr1.dom (by rw [h]; simp)))
        | map l c => rw [hb] at hB; exact hB.2.1
        | iter m s l t => rw [hb] at hB; exact hB.2.1
        | dead => exact absurd hb hd
      refine ⟨h, hro', ?_⟩
      rcases Nat.lt_or_ge b w.heap.size with hlt | hge
      · subst hro'
        obtain ⟨i, o', n', es', hh⟩ := hx.old _ o n es b h hlt
        cases hh
      · exact hge
  have keep : Keeps ρ ρ' := fun id hid => .inl (lo (hr.dom hid))
  refine ⟨ρ', _, v', H.cat H', rfl, hv.shift hk, ⟨?_, ?_, ?_, ?_, ?_, ?_⟩, ⟨?_, ?_, Nat.le_add_right _ _, hx.size, fun b hb _ => hfr b hb, ?_, hx.os, hx.output⟩, rfl, rfl⟩
  · intro id ro b o n es hl
    by_cases hlt : id < H.next
    · rw [lo hlt] at hl
      have e1 : (H.cat H').blk id = H.blk id := if_pos hlt
      rw [e1]
      exact BlkRel.mono keep (hfr b (hr.lt hl)) (hr.blk hl)
    · obtain ⟨h1, _, _⟩ := hi' hlt hl
      have e1 : (H.cat H').blk id = (H'.blk (id - H.next)).shift H.next := if_neg hlt
      rw [e1]
      exact (hr1.blk h1).shift hk
  · intro id ro b o n es hl
    by_cases hlt : id < H.next
    · rw [lo hlt] at hl
      exact Nat.lt_of_lt_of_le (hr.lt hl) hx.size
    · exact hr1.lt (hi' hlt hl).1
  · intro i j ro ro' b o o' n n' es es' h1 h2 h3
    by_cases hi : i < H.next <;> by_cases hj : j < H.next
    · rw [lo hi] at h1; rw [lo hj] at h2; exact hr.inj h1 h2 h3
    · rw [lo hi] at h1
      have := hr.lt h1
      have := (hi' hj h2).2.2
      omega
    · rw [lo hj] at h2
      have := hr.lt h2
      have := (hi' hi h1).2.2
      omega
    · have := hr1.inj (hi' hi h1).1 (hi' hj h2).1 h3
      omega
  · intro id hid
    show id < H.next + H'.next
    by_cases hlt : id < H.next
    · omega
    · have h : (if id < H.next then ρ id else if H'.blk (id - H.next) = .dead then (if ρ1 (id - H.next) = .out then .out else .dead) else ρ1 (id - H.next)) ≠ .out := hid
      rw [if_neg hlt] at h
      have : ρ1 (id - H.next) ≠ .out := by
        intro e
        rw [e] at h
        split at h <;> simp at h
      have := hr1.dom this
      omega
  · intro id hid
    by_cases hlt : id < H.next
    · rw [lo hlt] at hid
      have e1 : (H.cat H').blk id = H.blk id := if_pos hlt
      rw [e1]; exact hr.dead hid
    · have e1 : (H.cat H').blk id = (H'.blk (id - H.next)).shift H.next := if_neg hlt
      have h : (if id < H.next then ρ id else if H'.blk (id - H.next) = .dead then (if ρ1 (id - H.next) = .out then .out else .dead) else ρ1 (id - H.next)) = .dead := hid
      rw [if_neg hlt] at h
      rw [e1]
      by_cases hd : H'.blk (id - H.next) = .dead
      · rw [hd]; rfl
      · rw [if_neg hd] at h
        exact absurd (hr1.dead h) hd
  · intro id hid
    have hid : H.next + H'.next ≤ id := hid
    have e1 : (H.cat H').blk id = (H'.blk (id - H.next)).shift H.next := if_neg (by omega)
    rw [e1, hr1.top _ (by omega)]
    rfl
  · intro id hid
    exact .inl (lo (hr.dom hid))
  · intro id hid ho
    exact ⟨by rw [lo hid]; exact ho, if_pos hid⟩
  · intro id o n es b hl hb
    by_cases hlt : id < H.next
    · rw [lo hlt] at hl; exact ⟨id, o, n, es, hl⟩
    · have := (hi' hlt hl).2.2
      omega

theorem cat_grow (H H1 : Heap) : Grow H (H.cat H1) := ⟨Nat.le_add_right _ _, fun id hi => if_pos hi⟩
theorem cat_blk (H H1 : Heap) (i : Nat) : (H.cat H1).blk (i + H.next) = (H1.blk i).shift H.next := by
  show (if i + H.next < H.next then _ else _) = _
  rw [if_neg (by omega), Nat.add_sub_cancel]

end Go.Cn
