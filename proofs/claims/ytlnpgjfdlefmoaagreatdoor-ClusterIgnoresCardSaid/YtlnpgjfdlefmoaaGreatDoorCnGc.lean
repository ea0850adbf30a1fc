/- What a call made and let go is forgotten. -/
import Derived.Test.YtlnpgjfdlefmoaaGreatDoorCnDeepOk
namespace Go.Cn
set_option linter.unusedVariables false
set_option linter.unusedSimpArgs false

/-- It does not hang on what stands at numbers from 'n' on. -/
def Below (n : Nat) (v : V) : Prop := ∀ ρ ρ' v', (∀ i, i < n → ρ' i = ρ i) → VRel ρ v v' → VRel ρ' v v'

theorem Below.bool {n : Nat} (b : Bool) : Below n (.bool b) := fun ρ ρ' v' h hv => by cases hv; exact .bool b
theorem Below.int {n : Nat} (k : IntKind) (x : Int) : Below n (.int k x) := fun ρ ρ' v' h hv => by cases hv; exact .int k x
theorem Below.str {n : Nat} (s : List UInt8) : Below n (.str s) := fun ρ ρ' v' h hv => by cases hv with | str e => exact .str e
theorem Below.nilS {n l e : Nat} {f : Bool} : Below n (.slice none l f e) := fun ρ ρ' v' h hv => by
  cases hv with | slice hs => cases hs; exact .slice .nil
theorem Below.agg {n : Nat} {cs : List V} (h : ∀ v ∈ cs, Below n v) : Below n (.agg cs) := fun ρ ρ' v' ha hv => by
  cases hv with
  | agg hc hn hr => exact .agg hc hn fun i v v' a b => h v (List.mem_of_getElem? a) ρ ρ' v' ha (hr i v v' a b)
theorem Below.tuple {n : Nat} {cs : List V} (h : ∀ v ∈ cs, Below n v) : Below n (.tuple cs) := fun ρ ρ' v' ha hv => by
  cases hv with
  | tuple hn hr => exact .tuple hn fun i v v' a b => h v (List.mem_of_getElem? a) ρ ρ' v' ha (hr i v v' a b)

theorem Below.of_rel {ρ : Ren} {n : Nat} (hd : ∀ id, ρ id ≠ .out → id < n) {v : V} {v' : Value} (h : VRel ρ v v') : Below n v := by
  induction h with
  | bool b => exact .bool b
  | int k x => exact .int k x
  | str e => exact .str _
  | ptr hp =>
    intro ρ1 ρ2 u ha hu
    cases hu with
    | ptr hp2 =>
      cases hp with
      | nil => cases hp2; exact .ptr .nil
      | dead a e =>
        have := ha _ (hd _ (by rw [e]; simp))
        cases hp2 with
        | dead a2 e2 => exact .ptr (.dead a2 (by rw [this]; exact e2))
        | live e2 => exact .ptr (.live (by rw [this]; exact e2))
      | live e =>
        have := ha _ (hd _ (by rw [e]; simp))
        cases hp2 with
        | dead a2 e2 => exact .ptr (.dead a2 (by rw [this]; exact e2))
        | live e2 => exact .ptr (.live (by rw [this]; exact e2))
  | slice hp =>
    intro ρ1 ρ2 u ha hu
    cases hu with
    | slice hp2 =>
      cases hp with
      | nil => cases hp2; exact .slice .nil
      | dead a e _ _ =>
        have := ha _ (hd _ (by rw [e]; simp))
        cases hp2 with
        | dead a2 e2 h1 h2 => exact .slice (.dead a2 (by rw [this]; exact e2) h1 h2)
        | live e2 h1 h2 h3 h4 => exact .slice (.live (by rw [this]; exact e2) h1 h2 h3 h4)
      | live e _ _ _ _ =>
        have := ha _ (hd _ (by rw [e]; simp))
        cases hp2 with
        | dead a2 e2 h1 h2 => exact .slice (.dead a2 (by rw [this]; exact e2) h1 h2)
        | live e2 h1 h2 h3 h4 => exact .slice (.live (by rw [this]; exact e2) h1 h2 h3 h4)
  | mapNil => intro ρ1 ρ2 u ha hu; cases hu; exact .mapNil
  | map e =>
    intro ρ1 ρ2 u ha hu
    have := ha _ (hd _ (by rw [e]; simp))
    cases hu with
    | map e2 => exact .map (by rw [this]; exact e2)
    | mapDead b e2 => exact .mapDead b (by rw [this]; exact e2)
  | mapDead b e =>
    intro ρ1 ρ2 u ha hu
    have := ha _ (hd _ (by rw [e]; simp))
    cases hu with
    | map e2 => exact .map (by rw [this]; exact e2)
    | mapDead b e2 => exact .mapDead b (by rw [this]; exact e2)
  | func hn h ih =>
    intro ρ1 ρ2 u ha hu
    cases hu with
    | func hn2 h2 => 
      refine .func hn2 fun i v v' a b => ?_
      have hi : i < _ := (List.getElem?_eq_some_iff.1 a).1
      obtain ⟨w, hw⟩ : ∃ w, _ = some w := ⟨_, Array.getElem?_eq_getElem (hn ▸ hi)⟩
      exact ih i v w a hw ρ1 ρ2 v' ha (h2 i v v' a b)
  | nilFunc => intro ρ1 ρ2 u ha hu; cases hu; exact .nilFunc
  | iface h ih => intro ρ1 ρ2 u ha hu; cases hu with | iface h2 => exact .iface (ih ρ1 ρ2 _ ha h2)
  | nilIface => intro ρ1 ρ2 u ha hu; cases hu; exact .nilIface
  | agg hc hn h ih =>
    refine .agg fun v hv => ?_
    obtain ⟨i, hi⟩ := List.getElem?_of_mem hv
    have hlt := (List.getElem?_eq_some_iff.1 hi).1
    exact ih i v _ hi (Array.getElem?_eq_getElem (hn ▸ hlt))
  | tuple hn h ih =>
    refine .tuple fun v hv => ?_
    obtain ⟨i, hi⟩ := List.getElem?_of_mem hv
    have hlt := (List.getElem?_eq_some_iff.1 hi).1
    exact ih i v _ hi (Array.getElem?_eq_getElem (hn ▸ hlt))

def BlkBelow (n : Nat) (B : Blk) : Prop := ∀ ρ ρ' w b o m es ro, (∀ i, i < n → ρ' i = ρ i) → BlkRel ρ w b o m es ro B → BlkRel ρ' w b o m es ro B

theorem BlkBelow.cells {n es : Nat} {ro : Bool} {cs : List V} (h : ∀ v ∈ cs, Below n v) : BlkBelow n (.cells es ro cs) := by
  intro ρ ρ' w b o m es' ro' ha hB
  obtain ⟨h1, h2, h3, c, h4, h5, h6⟩ := hB
  exact ⟨h1, h2, h3, c, h4, h5, fun i v hv => let ⟨v', g1, g2⟩ := h6 i v hv; ⟨v', g1, h v (List.mem_of_getElem? hv) ρ ρ' v' ha g2⟩⟩

theorem BlkBelow.map {n clock : Nat} {es : List (V × V × Nat)} (h : ∀ x ∈ es, Below n x.1 ∧ Below n x.2.1) : BlkBelow n (.map es clock) := by
  intro ρ ρ' w b o m es' ro' ha hB
  obtain ⟨h1, h2, l, h3, h4, h5⟩ := hB
  refine ⟨h1, h2, l, h3, h4, fun i k v s hi => ?_⟩
  obtain ⟨e, g1, g2, g3, g4⟩ := h5 i k v s hi
  obtain ⟨a1, a2⟩ := h _ (List.mem_of_getElem? hi)
  exact ⟨e, g1, a1 ρ ρ' _ ha g2, a2 ρ ρ' _ ha g3, g4⟩

theorem BlkBelow.dead {n : Nat} : BlkBelow n .dead := fun _ _ _ _ _ _ _ _ _ _ => trivial

theorem BlkBelow.of_rel {ρ : Ren} {n : Nat} (hd : ∀ id, ρ id ≠ .out → id < n) {w : World} {b o m es : Nat} {ro : Bool} {B : Blk} (h : BlkRel ρ w b o m es ro B) : BlkBelow n B := by
  cases B with
  | cells es' ro' cs =>
    obtain ⟨h1, h2, h3, c, h4, h5, h6⟩ := h
    refine .cells fun v hv => ?_
    obtain ⟨i, hi⟩ := List.getElem?_of_mem hv
    obtain ⟨v', g1, g2⟩ := h6 i v hi
    exact .of_rel hd g2
  | map es' clock =>
    obtain ⟨h1, h2, l, h3, h4, h5⟩ := h
    refine .map fun x hx => ?_
    obtain ⟨i, hi⟩ := List.getElem?_of_mem hx
    obtain ⟨e, g1, g2, g3, g4⟩ := h5 i x.1 x.2.1 x.2.2 hi
    exact ⟨.of_rel hd g2, .of_rel hd g3⟩
  | iter mm since seen stepped =>
    obtain ⟨h1, h2, bm, h3, h4⟩ := h
    intro ρ1 ρ2 w' b' o' m' es' ro' ha hB
    obtain ⟨g1, g2, bm', g3, g4⟩ := hB
    have hm : mm < n := hd mm (by rcases h4 with h4 | ⟨_, _, _, h4⟩ <;> (rw [h4]; simp))
    exact ⟨g1, g2, bm', g3, by rw [ha mm hm]; exact g4⟩
  | dead => exact .dead

/-- Only what stands below 'n'. -/
def Heap.upto (n : Nat) (H : Heap) : Heap := ⟨n, fun i => if i < n then H.blk i else .dead⟩
def Ren.upto (n : Nat) (ρ : Ren) : Ren := fun i => if i < n then ρ i else .out

section
variable {ρ ρ' : Ren} {H H' : Heap} {w w' : World}

theorem below_old (hr : Rel ρ H w) (hx : Ext ρ H w ρ' H' w') {id : Nat} (hid : id < H.next) {ro : Bool} {b o n es : Nat} (hl : ρ' id = .live ro b o n es) (he : H'.blk id = H.blk id) : BlkBelow H.next (H'.blk id) := by
  have h0 : ρ id ≠ .out := fun h => by rw [(hx.out id hid h).1] at hl; cases hl
  have h1 : ρ id = .live ro b o n es := by
    rcases hx.stay id h0 with h | h
    · rw [← h]; exact hl
    · rw [h] at hl; cases hl
  rw [he]
  exact .of_rel (fun i hi => hr.dom hi) (hr.blk h1)

theorem rel_gc (hr : Rel ρ H w) (hx : Ext ρ H w ρ' H' w') (hr' : Rel ρ' H' w') (hb : ∀ id, id < H.next → H'.blk id = H.blk id ∨ BlkBelow H.next (H'.blk id)) :
    Rel (ρ'.upto H.next) (H'.upto H.next) w' ∧ Ext ρ H w (ρ'.upto H.next) (H'.upto H.next) w' := by
  have lv : ∀ {id ro b o n es}, (ρ'.upto H.next) id = .live ro b o n es → id < H.next ∧ ρ' id = .live ro b o n es := by
    intro id ro b o n es h
    unfold Ren.upto at h
    split at h
    · rename_i hi; exact ⟨hi, h⟩
    · cases h
  have at' : ∀ {id}, id < H.next → (ρ'.upto H.next) id = ρ' id := fun h => if_pos h
  have bt' : ∀ {id}, id < H.next → (H'.upto H.next).blk id = H'.blk id := fun h => if_pos h
  refine ⟨⟨?_, ?_, ?_, ?_, ?_, ?_⟩, ⟨?_, ?_, Nat.le_refl _, hx.size, hx.frame, ?_, hx.os, hx.output⟩⟩
  · intro id ro b o n es h
    obtain ⟨hi, hl⟩ := lv h
    rw [bt' hi]
    have hB : BlkBelow H.next (H'.blk id) := by
      rcases hb id hi with e | e
      · exact below_old hr hx hi hl e
      · exact e
    exact hB ρ' _ w' b o n es ro (fun i hi => at' hi) (hr'.blk hl)
  · intro id ro b o n es h; exact hr'.lt (lv h).2
  · intro i j ro ro' b o o' n n' es es' h h' hh; exact hr'.inj (lv h).2 (lv h').2 hh
  · intro id h
    unfold Ren.upto at h
    split at h
    · assumption
    · exact absurd rfl h
  · intro id h
    unfold Ren.upto at h
    split at h
    · rename_i hi; rw [bt' hi]; exact hr'.dead h
    · cases h
  · intro id hi
    exact if_neg (Nat.not_lt.2 hi)
  · intro id h
    have hi := hr.dom h
    rw [at' hi]
    exact hx.stay id h
  · intro id hi h
    rw [at' hi, bt' hi]
    exact hx.out id hi h
  · intro id o n es b h hlt
    exact hx.old id o n es b (lv h).2 hlt

/-- A call's new blocks are forgotten. -/
theorem CallT.gc {P : Program} {f : FuncId} {vs : List V} {H : Heap} {K : V → Heap → Prop} (h : CallT P f vs H K)
    (hk : ∀ v H', K v H' → Below H.next v ∧ ∀ id, id < H.next → H'.blk id = H.blk id ∨ BlkBelow H.next (H'.blk id)) :
    CallT P f vs H fun v H'' => ∃ H', K v H' ∧ H'' = H'.upto H.next :=
  fun ρ w args hr ha => Calls.mono (h ρ w args hr ha) (by
    rintro e w' ⟨ρ', v, v', H', rfl, b, c, d, g⟩
    obtain ⟨h1, h2⟩ := hk v H' g
    obtain ⟨g1, g2⟩ := rel_gc hr d c h2
    exact ⟨_, v, v', _, rfl, h1 _ _ _ (fun i hi => if_pos hi) b, g1, g2, H', g, rfl⟩)

/-- All new blocks but one are forgotten: it gets the first new number. -/
def Heap.uptoB (n : Nat) (H : Heap) (B : Blk) : Heap := ⟨n + 1, fun i => if i < n then H.blk i else if i = n then B else .dead⟩
def Ren.uptoB (n id : Nat) (ρ : Ren) : Ren := fun i => if i < n then ρ i else if i = n then ρ id else .out

theorem rel_gc1 (hr : Rel ρ H w) (hx : Ext ρ H w ρ' H' w') (hr' : Rel ρ' H' w') (hb : ∀ id, id < H.next → H'.blk id = H.blk id ∨ BlkBelow H.next (H'.blk id)) {id : Nat} (hid : H.next ≤ id) (hB : BlkBelow H.next (H'.blk id)) :
    Rel (ρ'.uptoB H.next id) (H'.uptoB H.next (H'.blk id)) w' ∧ Ext ρ H w (ρ'.uptoB H.next id) (H'.uptoB H.next (H'.blk id)) w' := by
  have at' : ∀ {i}, i < H.next → (ρ'.uptoB H.next id) i = ρ' i := fun h => if_pos h
  have atN : (ρ'.uptoB H.next id) H.next = ρ' id := by unfold Ren.uptoB; rw [if_neg (Nat.lt_irrefl _), if_pos rfl]
  have bt' : ∀ {i}, i < H.next → (H'.uptoB H.next (H'.blk id)).blk i = H'.blk i := fun h => if_pos h
  have btN : (H'.uptoB H.next (H'.blk id)).blk H.next = H'.blk id := by unfold Heap.uptoB; simp
  have ne : ∀ {i}, (ρ'.uptoB H.next id) i ≠ .out → i < H.next ∨ i = H.next := by
    intro i h
    unfold Ren.uptoB at h
    split at h
    · left; assumption
    · split at h
      · right; assumption
      · exact absurd rfl h
  have lv : ∀ {i ro b o n es}, (ρ'.uptoB H.next id) i = .live ro b o n es → (i < H.next ∧ ρ' i = .live ro b o n es) ∨ (i = H.next ∧ ρ' id = .live ro b o n es) := by
    intro i ro b o n es h
    rcases ne (by rw [h]; simp) with hi | hi
    · rw [at' hi] at h; exact .inl ⟨hi, h⟩
    · rw [hi, atN] at h; exact .inr ⟨hi, h⟩
  refine ⟨⟨?_, ?_, ?_, ?_, ?_, ?_⟩, ⟨?_, ?_, Nat.le_succ _, hx.size, hx.frame, ?_, hx.os, hx.output⟩⟩
  · intro i ro b o n es h
    rcases lv h with ⟨hi, hl⟩ | ⟨hi, hl⟩
    · rw [bt' hi]
      have hB' : BlkBelow H.next (H'.blk i) := by
        rcases hb i hi with e | e
        · exact below_old hr hx hi hl e
        · exact e
      exact hB' ρ' _ w' b o n es ro (fun i hi => at' hi) (hr'.blk hl)
    · rw [hi, btN]
      exact hB ρ' _ w' b o n es ro (fun i hi => at' hi) (hr'.blk hl)
  · intro i ro b o n es h
    rcases lv h with ⟨_, hl⟩ | ⟨_, hl⟩ <;> exact hr'.lt hl
  · intro i j ro ro' b o o' n n' es es' h h' hh
    rcases lv h with ⟨hi, hl⟩ | ⟨hi, hl⟩ <;> rcases lv h' with ⟨hj, hl'⟩ | ⟨hj, hl'⟩
    · exact hr'.inj hl hl' hh
    · have := hr'.inj hl hl' hh; omega
    · have := hr'.inj hl hl' hh; omega
    · rw [hi, hj]
  · intro i h
    rcases ne h with hi | hi
    · exact Nat.lt_succ_of_lt hi
    · exact hi ▸ Nat.lt_succ_self _
  · intro i h
    rcases ne (by rw [h]; simp) with hi | hi
    · rw [bt' hi]; rw [at' hi] at h; exact hr'.dead h
    · rw [hi, btN]; rw [hi, atN] at h; exact hr'.dead h
  · intro i hi
    have h1 : ¬ i < H.next := by simp only [Heap.uptoB] at hi; omega
    have h2 : ¬ i = H.next := by simp only [Heap.uptoB] at hi; omega
    simp only [Heap.uptoB, if_neg h1, if_neg h2]
  · intro i h
    have hi := hr.dom h
    rw [at' hi]
    exact hx.stay i h
  · intro i hi h
    rw [at' hi, bt' hi]
    exact hx.out i hi h
  · intro i o n es b h hlt
    rcases lv h with ⟨_, hl⟩ | ⟨_, hl⟩ <;> exact hx.old _ o n es b hl hlt

theorem CallT.gcS {P : Program} {f : FuncId} {vs : List V} {H : Heap} {K : V → Heap → Prop} (h : CallT P f vs H K) {Q : V → Heap → Prop}
    (hk : ∀ v H', K v H' → (∀ id, id < H.next → H'.blk id = H.blk id ∨ BlkBelow H.next (H'.blk id)) ∧ ∃ id o len full es, v = .slice (some (id, o)) len full es ∧ H.next ≤ id ∧ BlkBelow H.next (H'.blk id) ∧ Q (.slice (some (H.next, o)) len full es) (H'.uptoB H.next (H'.blk id))) :
    CallT P f vs H Q :=
  fun ρ w args hr ha => Calls.mono (h ρ w args hr ha) (by
    rintro e w' ⟨ρ', v, v', H', rfl, b, c, d, g⟩
    obtain ⟨h1, id, o, len, full, es, rfl, h2, h3, h4⟩ := hk v H' g
    obtain ⟨g1, g2⟩ := rel_gc1 hr d c h1 h2 h3
    have e1 : (ρ'.uptoB H.next id) H.next = ρ' id := by unfold Ren.uptoB; rw [if_neg (Nat.lt_irrefl _), if_pos rfl]
    refine ⟨_, _, v', _, rfl, ?_, g1, g2, h4⟩
    cases b with
    | slice hs =>
      cases hs with
      | dead a hd hl hf => exact .slice (.dead a (by rw [e1]; exact hd) hl hf)
      | live hl' a1 a2 a3 a4 => exact .slice (.live (by rw [e1]; exact hl') a1 a2 a3 a4))

end
end Go.Cn
