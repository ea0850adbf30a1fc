/- How the relation of heap and world goes over a new block, a changed block, a block that is let go. -/
import Derived.Test.YtlnpgjfdlefmoaaGreatDoorCnMap
namespace Go.Cn
set_option linter.unusedVariables false
set_option linter.unusedSimpArgs false
set_option maxHeartbeats 100000

section
variable {P : Program} {ρ : Ren} {H : Heap} {w : World}

def World.setBlk (w : World) (b : Nat) (O : Obj) : World := { w with heap := w.heap.setIfInBounds b O }

theorem setBlk_get {w : World} {b : Nat} {O : Obj} (hb : b < w.heap.size) : (World.setBlk w b O).heap[b]? = some O := by
  simp [World.setBlk, hb]
theorem setBlk_ne {w : World} {b c : Nat} {O : Obj} (h : c ≠ b) : (World.setBlk w b O).heap[c]? = w.heap[c]? := by
  simp only [World.setBlk]
  rw [Array.getElem?_setIfInBounds, if_neg (Ne.symm h)]
theorem setBlk_size {w : World} {b : Nat} {O : Obj} : (World.setBlk w b O).heap.size = w.heap.size := by simp [World.setBlk]

theorem Keeps.refl (ρ : Ren) : Keeps ρ ρ := fun _ _ => .inl rfl

/-- One block is written. -/
theorem rel_set (hr : Rel ρ H w) {id b o n es : Nat} (hl : ρ id = .live false b o n es) {w' : World} {O : Obj} (hw : w'.heap = w.heap.setIfInBounds b O) (ho : w'.os = w.os) (hout : w'.output = w.output) {B : Blk} (hB : BlkRel ρ w' b o n es false B) :
    Rel ρ (H.set id B) w' ∧ Ext ρ H w ρ (H.set id B) w' := by
  have hbs := hr.lt hl
  have hget : ∀ c, c ≠ b → w'.heap[c]? = w.heap[c]? := by
    intro c hc
    rw [hw, Array.getElem?_setIfInBounds, if_neg (Ne.symm hc)]
  have hidlt : id < H.next := hr.dom (by rw [hl]; simp)
  have htop : ∀ i, (H.set id B).next ≤ i → (H.set id B).blk i = .dead := by
    intro i hi
    have : i ≠ id := by
      simp only [Heap.set] at hi
      omega
    simp only [Heap.set, this, if_false]
    exact hr.top i hi
  refine ⟨⟨?_, ?_, hr.inj, hr.dom, ?_, htop⟩, ⟨fun _ _ => .inl rfl, ?_, Nat.le_refl _, by rw [hw]; simp, ?_, fun i o n es b h _ => ⟨i, o, n, es, h⟩, ho, hout⟩⟩
  · intro i ro b' o' n' es' h
    by_cases e : i = id
    · subst e
      rw [hl] at h
      cases h
      simpa [Heap.set] using hB
    · have hne : b' ≠ b := by
        rintro rfl
        exact e (hr.inj h hl (.inr rfl))
      simp only [Heap.set, e, if_false]
      exact (hr.blk h).mono (Keeps.refl ρ) (hget b' hne)
  · intro i ro b' o' n' es' h
    rw [hw]; simpa using hr.lt h
  · intro i h
    have : i ≠ id := by rintro rfl; rw [hl] at h; cases h
    simp only [Heap.set, this, if_false]
    exact hr.dead h
  · intro i hi h
    have : i ≠ id := by rintro rfl; rw [hl] at h; cases h
    exact ⟨h, by simp [Heap.set, this]⟩
  · intro c hc hn
    refine hget c ?_
    rintro rfl
    exact hn id o n es hl

/-- A new block. -/
theorem rel_push (hr : Rel ρ H w) {w' : World} {O : Obj} (hw : w'.heap = w.heap.push O) (ho : w'.os = w.os) (hout : w'.output = w.output) {n es : Nat} {B : Blk}
    (hB : BlkRel (ρ.upd H.next (.live false w.heap.size 0 n es)) w' w.heap.size 0 n es false B) :
    Rel (ρ.upd H.next (.live false w.heap.size 0 n es)) (H.push B) w' ∧ Ext ρ H w (ρ.upd H.next (.live false w.heap.size 0 n es)) (H.push B) w' := by
  have hnext : ρ H.next = .out := by
    cases h : ρ H.next with
    | out => rfl
    | _ => exact absurd (hr.dom (id := H.next) (by rw [h]; simp)) (Nat.lt_irrefl _)
  have hk : Keeps ρ (ρ.upd H.next (.live false w.heap.size 0 n es)) := Ren.upd_keeps hnext
  have hget : ∀ c, c < w.heap.size → w'.heap[c]? = w.heap[c]? := by
    intro c hc
    rw [hw, Array.getElem?_push_lt hc]; simp [hc]
  have hne : ∀ {i}, i < H.next → (ρ.upd H.next (.live false w.heap.size 0 n es)) i = ρ i := by
    intro i hi
    have : i ≠ H.next := Nat.ne_of_lt hi
    simp [Ren.upd, this]
  have htop : ∀ i, (H.push B).next ≤ i → (H.push B).blk i = .dead := by
    intro i hi
    have e : i ≠ H.next := by (simp only [Heap.push] at hi; omega)
    simp only [Heap.push, e, if_false]
    exact hr.top i (by simp only [Heap.push] at hi; omega)
  refine ⟨⟨?_, ?_, ?_, ?_, ?_, htop⟩, ⟨hk, ?_, Nat.le_succ _, by rw [hw]; simp, fun c hc _ => hget c hc, ?_, ho, hout⟩⟩
  · intro i ro b' o' n' es' h
    by_cases e : i = H.next
    · subst e
      rw [Ren.upd_self] at h
      cases h
      simpa [Heap.push] using hB
    · have h' : ρ i = .live ro b' o' n' es' := by simpa [Ren.upd, e] using h
      simp only [Heap.push, e, if_false]
      exact (hr.blk h').mono hk (hget b' (hr.lt h'))
  · intro i ro b' o' n' es' h
    rw [hw, Array.size_push]
    by_cases e : i = H.next
    · subst e; rw [Ren.upd_self] at h; cases h; omega
    · have h' : ρ i = .live ro b' o' n' es' := by simpa [Ren.upd, e] using h
      have := hr.lt h'; omega
  · intro i j ro ro' b' o1 o2 n1 n2 e1 e2 h h' hro
    by_cases e : i = H.next
    · by_cases e' : j = H.next
      · rw [e, e']
      · subst e
        rw [Ren.upd_self] at h; cases h
        have h'' : ρ j = .live ro' w.heap.size o2 n2 e2 := by simpa [Ren.upd, e'] using h'
        exact absurd (hr.lt h'') (Nat.lt_irrefl _)
    · have hi : ρ i = .live ro b' o1 n1 e1 := by simpa [Ren.upd, e] using h
      by_cases e' : j = H.next
      · subst e'
        rw [Ren.upd_self] at h'; cases h'
        exact absurd (hr.lt hi) (Nat.lt_irrefl _)
      · have hj : ρ j = .live ro' b' o2 n2 e2 := by simpa [Ren.upd, e'] using h'
        exact hr.inj hi hj hro
  · intro i h
    by_cases e : i = H.next
    · subst e; exact Nat.lt_succ_self _
    · have : ρ i ≠ .out := by simpa [Ren.upd, e] using h
      exact Nat.lt_succ_of_lt (hr.dom this)
  · intro i h
    by_cases e : i = H.next
    · subst e; rw [Ren.upd_self] at h; cases h
    · have : ρ i = .dead := by simpa [Ren.upd, e] using h
      simp only [Heap.push, e, if_false]
      exact hr.dead this
  · intro i hi h
    have : i ≠ H.next := Nat.ne_of_lt hi
    exact ⟨by rw [hne hi, h], by simp [Heap.push, this]⟩
  · intro i o1 n1 e1 b h hb
    by_cases e : i = H.next
    · subst e; rw [Ren.upd_self] at h; cases h; exact absurd hb (Nat.lt_irrefl _)
    · exact ⟨i, o1, n1, e1, by simpa [Ren.upd, e] using h⟩

/-- A block is let go: nothing is known of it any more. -/
theorem rel_kill (hr : Rel ρ H w) {id b o n es : Nat} {ro : Bool} (hl : ρ id = .live ro b o n es) : Rel (ρ.upd id .dead) (H.set id .dead) w ∧ Ext ρ H w (ρ.upd id .dead) (H.set id .dead) w := by
  have hk : Keeps ρ (ρ.upd id .dead) := by
    intro i _
    by_cases e : i = id
    · exact .inr (by simp [Ren.upd, e])
    · exact .inl (by simp [Ren.upd, e])
  have htop : ∀ i, (H.set id .dead).next ≤ i → (H.set id .dead).blk i = .dead := by
    intro i hi
    have e : i ≠ id := by (have := hr.dom (id := id) (by rw [hl]; simp); simp only [Heap.set] at hi; omega)
    simp only [Heap.set, e, if_false]
    exact hr.top i hi
  refine ⟨⟨?_, ?_, ?_, ?_, ?_, htop⟩, ⟨hk, ?_, Nat.le_refl _, Nat.le_refl _, fun _ _ _ => rfl, ?_, rfl, rfl⟩⟩
  · intro i ro' b' o' n' es' h
    by_cases e : i = id
    · subst e; rw [Ren.upd_self] at h; cases h
    · have h' : ρ i = .live ro' b' o' n' es' := by simpa [Ren.upd, e] using h
      simp only [Heap.set, e, if_false]
      exact (hr.blk h').mono hk rfl
  · intro i ro' b' o' n' es' h
    by_cases e : i = id
    · subst e; rw [Ren.upd_self] at h; cases h
    · exact hr.lt (by simpa [Ren.upd, e] using h)
  · intro i j ro' ro'' b' o1 o2 n1 n2 e1 e2 h h' hro
    by_cases e : i = id
    · subst e; rw [Ren.upd_self] at h; cases h
    · by_cases e' : j = id
      · subst e'; rw [Ren.upd_self] at h'; cases h'
      · exact hr.inj (by simpa [Ren.upd, e] using h) (by simpa [Ren.upd, e'] using h') hro
  · intro i h
    by_cases e : i = id
    · subst e; exact hr.dom (by rw [hl]; simp)
    · exact hr.dom (by simpa [Ren.upd, e] using h)
  · intro i h
    by_cases e : i = id
    · subst e; simp [Heap.set]
    · simp only [Heap.set, e, if_false]; exact hr.dead (by simpa [Ren.upd, e] using h)
  · intro i hi h
    have : i ≠ id := by rintro rfl; rw [hl] at h; cases h
    exact ⟨by simpa [Ren.upd, this] using h, by simp [Heap.set, this]⟩
  · intro i o1 n1 e1 b h hb
    by_cases e : i = id
    · subst e; rw [Ren.upd_self] at h; cases h
    · exact ⟨i, o1, n1, e1, by simpa [Ren.upd, e] using h⟩

/-- A row goes on in its own place, under a new number: the elder number dies. -/
theorem rel_move (hr : Rel ρ H w) {id b o n es : Nat} (hl : ρ id = .live false b o n es) {w' : World} {O : Obj} (hw : w'.heap = w.heap.setIfInBounds b O) (ho : w'.os = w.os) (hout : w'.output = w.output) {o' : Nat} {B : Blk}
    (hB : BlkRel ((ρ.upd id .dead).upd H.next (.live false b o' n es)) w' b o' n es false B) :
    Rel ((ρ.upd id .dead).upd H.next (.live false b o' n es)) ((H.set id .dead).push B) w' ∧ Ext ρ H w ((ρ.upd id .dead).upd H.next (.live false b o' n es)) ((H.set id .dead).push B) w' := by
  have hnext : ρ H.next = .out := by
    cases h : ρ H.next with
    | out => rfl
    | _ => exact absurd (hr.dom (id := H.next) (by rw [h]; simp)) (Nat.lt_irrefl _)
  have hid : id < H.next := hr.dom (by rw [hl]; simp)
  have hidne : id ≠ H.next := Nat.ne_of_lt hid
  have hbs := hr.lt hl
  have other : ∀ {i}, i ≠ id → i ≠ H.next → ((ρ.upd id .dead).upd H.next (.live false b o' n es)) i = ρ i := by
    intro i h1 h2; simp [Ren.upd, h1, h2]
  have self : ((ρ.upd id .dead).upd H.next (.live false b o' n es)) H.next = .live false b o' n es := Ren.upd_self _ _
  have old : ((ρ.upd id .dead).upd H.next (.live false b o' n es)) id = .dead := by simp [Ren.upd, hidne]
  have hk : Keeps ρ ((ρ.upd id .dead).upd H.next (.live false b o' n es)) := by
    intro i hi
    by_cases e : i = id
    · subst e; exact .inr old
    · have : i ≠ H.next := by rintro rfl; exact hi hnext
      exact .inl (other e this)
  have hget : ∀ c, c ≠ b → w'.heap[c]? = w.heap[c]? := by
    intro c hc
    rw [hw, Array.getElem?_setIfInBounds, if_neg (Ne.symm hc)]
  generalize hρ : ((ρ.upd id .dead).upd H.next (.live false b o' n es)) = ρ' at *
  have htop : ∀ i, ((H.set id .dead).push B).next ≤ i → ((H.set id .dead).push B).blk i = .dead := by
    intro i hi
    have e : i ≠ H.next ∧ i ≠ id ∧ H.next ≤ i := by (simp only [Heap.push, Heap.set] at hi; omega)
    simp only [Heap.push, Heap.set, e.1, e.2.1, if_false]
    exact hr.top i e.2.2
  refine ⟨⟨?_, ?_, ?_, ?_, ?_, htop⟩, ⟨hk, ?_, Nat.le_succ _, by rw [hw]; simp, ?_, ?_, ho, hout⟩⟩
  · intro i ro' b' o1 n' es' h
    by_cases e : i = H.next
    · subst e
      rw [self] at h
      cases h
      simpa [Heap.push, Heap.set] using hB
    · by_cases e2 : i = id
      · subst e2; rw [old] at h; cases h
      · rw [other e2 e] at h
        have hne : b' ≠ b := by
          rintro rfl
          exact e2 (hr.inj h hl (.inr rfl))
        have hb1 : ((H.set id .dead).push B).blk i = H.blk i := by simp [Heap.push, Heap.set, e, e2]
        rw [hb1]
        exact (hr.blk h).mono hk (hget b' hne)
  · intro i ro' b' o1 n' es' h
    rw [hw]
    simp only [Array.size_setIfInBounds]
    by_cases e : i = H.next
    · subst e; rw [self] at h; cases h; exact hbs
    · by_cases e2 : i = id
      · subst e2; rw [old] at h; cases h
      · rw [other e2 e] at h; exact hr.lt h
  · intro i j ro' ro'' b' o1 o2 n1 n2 e1 e2 h h' hro
    by_cases ei : i = H.next
    · by_cases ej : j = H.next
      · rw [ei, ej]
      · subst ei
        rw [self] at h; cases h
        by_cases ej2 : j = id
        · subst ej2; rw [old] at h'; cases h'
        · rw [other ej2 ej] at h'
          exact absurd (hr.inj h' hl (.inr rfl)) ej2
    · by_cases ei2 : i = id
      · subst ei2; rw [old] at h; cases h
      · rw [other ei2 ei] at h
        by_cases ej : j = H.next
        · subst ej
          rw [self] at h'; cases h'
          exact absurd (hr.inj h hl (.inr rfl)) ei2
        · by_cases ej2 : j = id
          · subst ej2; rw [old] at h'; cases h'
          · rw [other ej2 ej] at h'
            exact hr.inj h h' hro
  · intro i h
    by_cases e : i = H.next
    · subst e; exact Nat.lt_succ_self _
    · by_cases e2 : i = id
      · subst e2; exact Nat.lt_succ_of_lt hid
      · rw [other e2 e] at h; exact Nat.lt_succ_of_lt (hr.dom h)
  · intro i h
    by_cases e : i = H.next
    · subst e; rw [self] at h; cases h
    · by_cases e2 : i = id
      · subst e2; simp [Heap.push, Heap.set, e]
      · rw [other e2 e] at h
        have hb1 : ((H.set id .dead).push B).blk i = H.blk i := by simp [Heap.push, Heap.set, e, e2]
        rw [hb1]
        exact hr.dead h
  · intro i hi h
    have e : i ≠ H.next := Nat.ne_of_lt hi
    have e2 : i ≠ id := by rintro rfl; rw [hl] at h; cases h
    exact ⟨by rw [other e2 e, h], by simp [Heap.push, Heap.set, e, e2]⟩
  · intro c hc hn
    refine hget c ?_
    rintro rfl
    exact hn id o n es hl
  · intro i o1 n1 e1 b1 h hb1
    by_cases e : i = H.next
    · subst e; rw [self] at h; cases h; exact ⟨id, o, n, es, hl⟩
    · by_cases e2 : i = id
      · subst e2; rw [old] at h; cases h
      · rw [other e2 e] at h; exact ⟨i, o1, n1, e1, h⟩

/-! ### Cells laid into a block -/
def layAt (c : Array Value) (k : Nat) (l : List Value) (i : Nat) : Array Value := (l.zipIdx i).foldl (fun cs (x, j) => cs.setIfInBounds (k + j) x) c

theorem layAt_size (l : List Value) : ∀ (c : Array Value) (k i : Nat), (layAt c k l i).size = c.size := by
  induction l with
  | nil => intro c k i; rfl
  | cons x xs ih =>
    intro c k i
    have := ih (c.setIfInBounds (k + i) x) k (i + 1)
    simp only [layAt, List.zipIdx_cons, List.foldl_cons] at this ⊢
    rw [this]; simp

theorem run_storeCells : ∀ (l : List Value) (w : World) (b k i : Nat) (c : Array Value) (T : TypeId) (lo hi : Nat), w.heap[b]? = some (.cells c T (lo, hi)) → (c.size ≤ lo ∨ hi ≤ lo) → k + i + l.length ≤ c.size → (∀ v ∈ l, v.oneCell' = true) →
    (storeCells ⟨b, k, none⟩ l i).run P w = .ok () (World.setBlk w b (.cells (layAt c k l i) T (lo, hi)))
  | [], w, b, k, i, c, T, lo, hi, hb, hf, hk, hl => by
    simp only [storeCells, Sem.run_pure, layAt, List.zipIdx_nil, List.foldl_nil]
    congr 1
    have hlt : b < w.heap.size := by
      rcases Nat.lt_or_ge b w.heap.size with h | h
      · exact h
      · rw [Array.getElem?_eq_none h] at hb; cases hb
    have : w.heap.setIfInBounds b (.cells c T (lo, hi)) = w.heap := by
      apply Array.ext_getElem?
      intro j
      rw [Array.getElem?_setIfInBounds]
      split
      · rename_i e; subst e; exact hb.symm
      · rfl
    rw [World.setBlk, this]
  | v :: l, w, b, k, i, c, T, lo, hi, hb, hf, hk, hl => by
    simp only [List.length_cons] at hk
    have hlt : b < w.heap.size := by
      rcases Nat.lt_or_ge b w.heap.size with h | h
      · exact h
      · rw [Array.getElem?_eq_none h] at hb; cases hb
    have hcell : w.cell? ⟨b, k + i, none⟩ = c[k + i]? := by simp [World.cell?, hb]
    have hsome : c[k + i]? = some c[k + i] := by simp
    have hfr : w.frozen? ⟨b, k + i, none⟩ = false := by
      simp only [World.frozen?, hb, Bool.and_eq_false_iff, decide_eq_false_iff_not]; omega
    have hset : w.setCell ⟨b, k + i, none⟩ v = World.setBlk w b (.cells (c.setIfInBounds (k + i) v) T (lo, hi)) := by
      unfold World.setCell World.setBlk
      congr 1
      apply Array.ext_getElem?
      intro j
      rw [Array.getElem?_modify, Array.getElem?_setIfInBounds]
      split
      · rename_i e; subst e; rw [hb]; simp [hlt]
      · rfl
    have h1 : (store ⟨b, k + i, none⟩ v).run P w = .ok () (World.setBlk w b (.cells (c.setIfInBounds (k + i) v) T (lo, hi))) := by
      rw [run_store P w _ v .plain (hl v (by simp)), hcell, hsome]
      simp only [hfr, Bool.false_eq_true, if_false, hset]
    have ih := run_storeCells l (World.setBlk w b (.cells (c.setIfInBounds (k + i) v) T (lo, hi))) b k (i + 1) (c.setIfInBounds (k + i) v) T lo hi (setBlk_get hlt) (by simpa using hf) (by simp; omega) (fun u hu => hl u (by simp [hu]))
    simp only [storeCells, Sem.run_bind, add_at, h1, Result.andThen_ok, ih, layAt, List.zipIdx_cons, List.foldl_cons]
    congr 1
    simp only [World.setBlk]
    congr 1
    apply Array.ext_getElem?
    intro j
    simp only [Array.getElem?_setIfInBounds, Array.size_setIfInBounds]
    split <;> rfl

/-- A row of values stands in an array from a place on. -/
def Win (ρ : Ren) (o : Nat) (cs : List V) (c : Array Value) : Prop := o + cs.length ≤ c.size ∧ ∀ (i : Nat) (v : V), cs[i]? = some v → ∃ v', c[o + i]? = some v' ∧ VRel ρ v v'

theorem win_lay : ∀ {vs : List V} {l : List Value} (hl : L2 (VRel ρ) vs l) {cs : List V} {c : Array Value} (o off i : Nat), Win ρ o cs c → off + i + vs.length ≤ cs.length → Win ρ o (wr cs (off + i) vs) (layAt c (o + off) l i)
  | [], l, hl, cs, c, o, off, i, hw, hb => by
    cases hl
    have : wr cs (off + i) [] = cs := by
      apply List.ext_getElem?
      intro j
      rw [wr_get cs (off + i) [] j (by simpa using hb), if_neg (by simp)]
    rw [this]
    exact hw
  | v :: vs, l, hl, cs, c, o, off, i, hw, hb => by
    obtain _ | ⟨h1, h2⟩ := hl
    rename_i v' l
    simp only [List.length_cons] at hb
    rw [wr_cons cs (off + i) v vs (by omega)]
    have hw' : Win ρ o (cs.set (off + i) v) (c.setIfInBounds (o + off + i) v') := by
      refine ⟨by simpa using hw.1, fun j u hu => ?_⟩
      rw [List.getElem?_set] at hu
      by_cases e : off + i = j
      · subst e
        simp only [if_true] at hu
        split at hu
        · cases hu
          refine ⟨v', ?_, h1⟩
          rw [Array.getElem?_setIfInBounds, if_pos (by omega)]
          have := hw.1
          rw [if_pos (by omega)]
        · cases hu
      · rw [if_neg e] at hu
        obtain ⟨u', h3, h4⟩ := hw.2 j u hu
        refine ⟨u', ?_, h4⟩
        rw [Array.getElem?_setIfInBounds, if_neg (by omega)]
        exact h3
    have := win_lay h2 o off (i + 1) hw' (by simp; omega)
    exact this

end
end Go.Cn
