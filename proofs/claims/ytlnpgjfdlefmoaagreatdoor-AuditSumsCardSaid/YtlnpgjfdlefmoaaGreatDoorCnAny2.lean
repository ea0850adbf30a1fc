/- A region whose order is drawn: the proof. -/
import Derived.Test.YtlnpgjfdlefmoaaGreatDoorCnAny
import Derived.Test.YtlnpgjfdlefmoaaGreatDoorCnAct
namespace Go.Cn
set_option linter.unusedVariables false
set_option linter.unusedSimpArgs false
set_option maxHeartbeats 200000

def gOk (ops : Array Oper) (o : Oper) : Option (Nat × Bool) → Prop
  | none => o.guard = none
  | some (d, want) => ∃ j, o.guard = some (j, want) ∧ (ops[j]?).bind (·.dst) = some d

/-- One operation and what was made ready of it. -/
structure ItOk (P : Program) (ops : Array Oper) (N : Nat) (o : Oper) (it : It) : Prop where
  dst : it.dst = o.dst
  lt : ∀ d, it.dst = some d → d < N
  g : gOk ops o it.g
  op : it.k = .bad ∨ cop P o = some (it.k, it.ys)

structure Good (P : Program) (ops : Array Oper) (L : List It) (M : Nat → Nat) (N : Nat) : Prop where
  item : ∀ it ∈ L, ∃ o, ops[it.i]? = some o ∧ ItOk P ops N o it
  all : ∀ i, i < ops.size → ∃ it ∈ L, it.i = i
  nodup : (L.map (·.i)).Nodup
  len : L.length = ops.size
  mask : ∀ i o, ops[i]? = some o → ∀ j, (M i).testBit j = true → ∃ x ∈ o.after, Region.binds .any x = true ∧ (x.on = j ∨ (M x.on).testBit j = true)
  topo : ∀ A it B, L = A ++ it :: B → ∀ o, ops[it.i]? = some o → ∀ x ∈ o.after, Region.binds .any x = true → ∃ y ∈ A, y.i = x.on
  pair : L.Pairwise fun x y => pairOk M x y = true

section
variable {P : Program} {ops : Array Oper} {L : List It} {M : Nat → Nat} {N : Nat}

theorem ItOk.cop {o : Oper} {it : It} (h : ItOk P ops N o it) (hk : it.k ≠ .bad) : Cn.cop P o = some (it.k, it.ys) := h.op.resolve_left hk

theorem ActT.notBad {k : Kind} {vs : List V} {H : Heap} {K : V → Heap → Prop} (h : ActT P k vs H K) : k ≠ .bad := by
  rintro rfl
  exact h

theorem notActs_notBad {k : Kind} (h : k.acts = false) : k ≠ .bad := by
  rintro rfl
  cases h

theorem wanted_ok {o : Oper} {it : It} (h : ItOk P ops N o it) {ρ : Ren} {e : Env} {a : Act} (he : ERel ρ e a) {b : Bool} (hw : wantE e it.g = some b) : Region.wanted o (yielded ops a.tmps) = b := by
  have hg := h.g
  unfold Region.wanted
  cases hig : it.g with
  | none => rw [hig] at hg hw; simp only [wantE, Option.some.injEq] at hw; subst hw; rw [hg]
  | some dw =>
    obtain ⟨d, want⟩ := dw
    rw [hig] at hg hw
    obtain ⟨j, h1, h2⟩ := hg
    rw [h1]
    simp only [wantE] at hw
    simp only [yielded, h2, Option.bind_some]
    cases hl : lk e d with
    | none => rw [hl] at hw; cases hw
    | some v =>
      have hv := he.lk d v hl
      rw [hl] at hw
      have hget : ∀ y, a.tmps.getD d undef = y → y ≠ undef → a.tmps[d]? = some y := by
        intro y hy hne
        rw [Array.getD_eq_getD_getElem?] at hy
        cases hq : a.tmps[d]? with
        | none => rw [hq] at hy; exact absurd hy.symm hne
        | some z => rw [hq] at hy; exact congrArg some hy
      cases v <;> first | (cases hw; done) | skip
      · rename_i c
        simp at hw
        generalize hy : a.tmps.getD d undef = y at hv
        cases hv
        rw [hget _ hy (by simp [undef])]
        simp [← hw]
      · cases hw
        generalize hy : a.tmps.getD d undef = y at hv
        cases hv
        rename_i cs' _ _
        rw [Array.getD_eq_getD_getElem?] at hy
        cases hq : a.tmps[d]? with
        | none => simp
        | some z =>
          rw [hq] at hy
          simp only [Option.getD_some] at hy
          subst hy
          simp

theorem Rel.grow {ρ : Ren} {H H2 : Heap} {w : World} (hr : Rel ρ H w) (hn : H.next ≤ H2.next) (hb : ∀ id, id < H.next → H2.blk id = H.blk id) (ht : ∀ id, H2.next ≤ id → H2.blk id = .dead) : Rel ρ H2 w where
  blk {id ro b o n es} h := by rw [hb id (hr.dom (by rw [h]; simp))]; exact hr.blk h
  lt := hr.lt
  inj := hr.inj
  dom h := Nat.lt_of_lt_of_le (hr.dom h) hn
  dead {id} h := by rw [hb id (hr.dom (by rw [h]; simp))]; exact hr.dead h
  top := ht

theorem Ext.grow {ρ0 ρ : Ren} {H0 H H2 : Heap} {w0 w : World} (hx : Ext ρ0 H0 w0 ρ H w) (hn : H.next ≤ H2.next) (hb : ∀ id, id < H.next → H2.blk id = H.blk id) : Ext ρ0 H0 w0 ρ H2 w where
  stay := hx.stay
  out id hi h := ⟨(hx.out id hi h).1, by rw [hb id (Nat.lt_of_lt_of_le hi hx.next)]; exact (hx.out id hi h).2⟩
  next := Nat.le_trans hx.next hn
  size := hx.size
  frame := hx.frame
  old := hx.old
  os := hx.os
  output := hx.output

/-- A block that our order has already made comes to be in the run. -/
theorem rel_mat {ρ : Ren} {H : Heap} {w w' : World} (hr : Rel ρ H w) {id : Nat} (hid : ρ id = .out) (hlt : id < H.next) {O : Obj} (hw : w'.heap = w.heap.push O) {n es : Nat}
    (hB : BlkRel (ρ.upd id (.live false w.heap.size 0 n es)) w' w.heap.size 0 n es false (H.blk id)) : Rel (ρ.upd id (.live false w.heap.size 0 n es)) H w' := by
  have hk : Keeps ρ (ρ.upd id (.live false w.heap.size 0 n es)) := Ren.upd_keeps hid
  have hold : ∀ {i : Nat}, i < w.heap.size → w'.heap[i]? = w.heap[i]? := by
    intro i hi
    rw [hw, Array.getElem?_push, if_neg (by omega)]
  refine ⟨?_, ?_, ?_, ?_, ?_, hr.top⟩
  · intro i ro b' o' n' es' h
    by_cases e : i = id
    · subst e; rw [Ren.upd_self] at h; cases h; exact hB
    · have h' : ρ i = .live ro b' o' n' es' := by simpa [Ren.upd, e] using h
      exact (hr.blk h').mono hk (hold (hr.lt h'))
  · intro i ro b' o' n' es' h
    rw [hw, Array.size_push]
    by_cases e : i = id
    · subst e; rw [Ren.upd_self] at h; cases h; omega
    · have h' : ρ i = .live ro b' o' n' es' := by simpa [Ren.upd, e] using h
      have := hr.lt h'; omega
  · intro i j ro ro' b' o1 o2 n1 n2 e1 e2 h h' hro
    by_cases e : i = id
    · by_cases e' : j = id
      · rw [e, e']
      · subst e
        rw [Ren.upd_self] at h; cases h
        have h'' : ρ j = .live ro' w.heap.size o2 n2 e2 := by simpa [Ren.upd, e'] using h'
        exact absurd (hr.lt h'') (Nat.lt_irrefl _)
    · have hi : ρ i = .live ro b' o1 n1 e1 := by simpa [Ren.upd, e] using h
      by_cases e' : j = id
      · subst e'
        rw [Ren.upd_self] at h'; cases h'
        exact absurd (hr.lt hi) (Nat.lt_irrefl _)
      · have hj : ρ j = .live ro' b' o2 n2 e2 := by simpa [Ren.upd, e'] using h'
        exact hr.inj hi hj hro
  · intro i h
    by_cases e : i = id
    · subst e; exact hlt
    · exact hr.dom (by simpa [Ren.upd, e] using h)
  · intro i h
    by_cases e : i = id
    · subst e; rw [Ren.upd_self] at h; cases h
    · exact hr.dead (by simpa [Ren.upd, e] using h)

theorem Ext.mat {ρ0 ρ : Ren} {H0 H : Heap} {w0 w w' : World} (hx : Ext ρ0 H0 w0 ρ H w) (hd0 : ∀ id, ρ0 id ≠ .out → id < H0.next) {id : Nat} (hid : ρ id = .out) (hge : H0.next ≤ id) {O : Obj} (hw : w'.heap = w.heap.push O) (ho : w'.os = w.os) (hout : w'.output = w.output) {n es : Nat} :
    Ext ρ0 H0 w0 (ρ.upd id (.live false w.heap.size 0 n es)) H w' where
  stay i hi := by
    have : i ≠ id := by have := hd0 i hi; omega
    rw [show (ρ.upd id (.live false w.heap.size 0 n es)) i = ρ i by simp [Ren.upd, this]]
    exact hx.stay i hi
  out i hi h := by
    have : i ≠ id := by omega
    rw [show (ρ.upd id (.live false w.heap.size 0 n es)) i = ρ i by simp [Ren.upd, this]]
    exact hx.out i hi h
  next := hx.next
  size := by rw [hw, Array.size_push]; exact Nat.le_succ_of_le hx.size
  frame b hb hn := by
    rw [hw, Array.getElem?_push, if_neg (by have := hx.size; omega)]
    exact hx.frame b hb hn
  old i o n' es' b h hb := by
    by_cases e : i = id
    · subst e; rw [Ren.upd_self] at h; cases h; exact absurd hx.size (by omega)
    · exact hx.old i o n' es' b (by simpa [Ren.upd, e] using h) hb
  os := ho.trans hx.os
  output := hout.trans hx.output

theorem lk_S {e0 : Env} {S : Nat → Bool} {t : Nat} {A B : List Dn} (hA : ∀ y ∈ A, y.it.dst = some t → S y.it.i = true) (hB : ∀ y ∈ B, y.it.dst = some t → S y.it.i = false) :
    lk (fold e0 ((A ++ B).filter fun x => S x.it.i)) t = lk (fold e0 A) t := by
  rw [fold_filter, fold_filter A, List.filter_append, List.filter_append, List.filter_filter, List.filter_filter]
  have h2 : B.filter (fun x => (x.it.dst == some t) && S x.it.i) = [] := by
    rw [List.filter_eq_nil_iff]
    intro y hy h
    simp only [Bool.and_eq_true, beq_iff_eq] at h
    rw [hB y hy h.1] at h
    cases h.2
  have h1 : A.filter (fun x => (x.it.dst == some t) && S x.it.i) = A.filter (fun x => x.it.dst == some t) := by
    refine List.filter_congr fun y hy => ?_
    cases h : (y.it.dst == some t) with
    | false => rfl
    | true => rw [hA y hy (by simpa using h)]; rfl
  rw [h1, h2, List.append_nil]

theorem lk_last {e0 : Env} {t : Nat} {x : Dn} (hx : x.it.dst = some t) : ∀ {A B : List Dn}, (∀ y ∈ B, y.it.dst ≠ some t) → lk (fold e0 (A ++ x :: B)) t = some x.v := by
  intro A B hB
  rw [fold_append, fold_cons]
  have : ∀ (B : List Dn) (e : Env), (∀ y ∈ B, y.it.dst ≠ some t) → lk (fold e B) t = lk e t := by
    intro B
    induction B with
    | nil => intro e _; rfl
    | cons y B ih =>
      intro e h
      rw [fold_cons, ih _ (fun z hz => h z (by simp [hz])), lk_putE, if_neg (h y (by simp))]
  rw [this B _ hB, lk_putE, if_pos hx]

theorem lk_skip {e0 : Env} {S S' : Nat → Bool} {t : Nat} {D : List Dn} (h : ∀ y ∈ D, y.it.dst = some t → S' y.it.i = S y.it.i) :
    lk (fold e0 (D.filter fun x => S' x.it.i)) t = lk (fold e0 (D.filter fun x => S x.it.i)) t := by
  rw [fold_filter, fold_filter (D.filter fun x => S x.it.i), List.filter_filter, List.filter_filter]
  congr 2
  refine List.filter_congr fun y hy => ?_
  cases hd : (y.it.dst == some t) with
  | false => rfl
  | true => rw [h y hy (by simpa using hd)]

theorem clash_left {x y : It} {t : Nat} (h : x.dst = some t) (h' : t ∈ y.reads ∨ y.dst = some t) : x.clash y = true := by
  unfold It.clash
  rw [h]
  rcases h' with h' | h'
  · simp [h']
  · simp [h']

theorem clash_right {x y : It} {t : Nat} (h : y.dst = some t) (h' : t ∈ x.reads) : x.clash y = true := by
  unfold It.clash
  rw [h]
  simp [h']

theorem pair_clash {x y : It} (h : pairOk M x y = true) (hc : x.clash y = true) : (M y.i).testBit x.i = true := by
  unfold pairOk at h
  simp only [hc, Bool.not_true, Bool.false_or, Bool.and_eq_true] at h
  exact h.1.1

theorem pair_acts {x y : It} (h : pairOk M x y = true) (hc : x.k.acts = true) : (M y.i).testBit x.i = true := by
  unfold pairOk at h
  simp only [hc, Bool.not_true, Bool.false_or, Bool.and_eq_true] at h
  exact h.1.2

theorem pair_reads {x y : It} (h : pairOk M x y = true) (hc : x.k.reads = true) (hy : y.k.acts = true) : (M y.i).testBit x.i = true ∨ x.i ∈ y.keep := by
  unfold pairOk at h
  simp only [hc, hy, Bool.not_true, Bool.false_or, Bool.and_eq_true, Bool.or_eq_true, List.contains_iff_mem] at h
  exact h.2

end
end Go.Cn
