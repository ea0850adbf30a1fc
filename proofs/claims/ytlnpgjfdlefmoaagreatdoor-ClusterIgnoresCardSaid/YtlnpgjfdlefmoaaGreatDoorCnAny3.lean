/- A region whose order is drawn: the proof. -/
import Derived.Test.YtlnpgjfdlefmoaaGreatDoorCnAct
namespace Go.Cn
set_option linter.unusedVariables false
set_option linter.unusedSimpArgs false
set_option maxHeartbeats 200000

def gOk (ops : Array Oper) (o : Oper) : Option (Nat × Bool) → Prop
  | none => o.guard = none
  | some (d, want) => ∃ j, o.guard = some (j, want) ∧ (ops[j]?).bind (·.dst) = some d

/-- One operation and what was made ready of it. -/
structure ItOk (P : Program) (ops : Array Oper) (N : Nat) (o : Oper) (it : It) : Prop where
  dst : it.dst = o.dst
  lt : ∀ d, it.dst = some d → d < N
  g : gOk ops o it.g
  op : it.k = .bad ∨ cop P o = some (it.k, it.ys)

structure Good (P : Program) (ops : Array Oper) (L : List It) (M : Nat → Nat) (N : Nat) : Prop where
  item : ∀ it ∈ L, ∃ o, ops[it.i]? = some o ∧ ItOk P ops N o it
  all : ∀ i, i < ops.size → ∃ it ∈ L, it.i = i
  nodup : (L.map (·.i)).Nodup
  len : L.length = ops.size
  mask : ∀ i o, ops[i]? = some o → ∀ j, (M i).testBit j = true → ∃ x ∈ o.after, Region.binds .any x = true ∧ (x.on = j ∨ (M x.on).testBit j = true)
  topo : ∀ A it B, L = A ++ it :: B → ∀ o, ops[it.i]? = some o → ∀ x ∈ o.after, Region.binds .any x = true → ∃ y ∈ A, y.i = x.on
  pair : L.Pairwise fun x y => pairOk M x y = true

section
variable {P : Program} {ops : Array Oper} {L : List It} {M : Nat → Nat} {N : Nat}

theorem ItOk.cop {o : Oper} {it : It} (h : ItOk P ops N o it) (hk : it.k ≠ .bad) : Cn.cop P o = some (it.k, it.ys) := h.op.resolve_left hk

theorem ActT.notBad {k : Kind} {vs : List V} {H : Heap} {K : V → Heap → Prop} (h : ActT P k vs H K) : k ≠ .bad := by
  rintro rfl
  exact h

theorem notActs_notBad {k : Kind} (h : k.acts = false) : k ≠ .bad := by
  rintro rfl
  cases h

theorem wanted_ok {o : Oper} {it : It} (h : ItOk P ops N o it) {ρ : Ren} {e : Env} {a : Act} (he : ERel ρ e a) {b : Bool} (hw : wantE e it.g = some b) : Region.wanted o (yielded ops a.tmps) = b := by
  have hg := h.g
  unfold Region.wanted
  cases hig : it.g with
  | none => rw [hig] at hg hw; simp only [wantE, Option.some.injEq] at hw; subst hw; rw [hg]
  | some dw =>
    obtain ⟨d, want⟩ := dw
    rw [hig] at hg hw
    obtain ⟨j, h1, h2⟩ := hg
    rw [h1]
    simp only [wantE] at hw
    simp only [yielded, h2, Option.bind_some]
    cases hl : lk e d with
    | none => rw [hl] at hw; cases hw
    | some v =>
      have hv := he.lk d v hl
      rw [hl] at hw
      have hget : ∀ y, a.tmps.getD d undef = y → y ≠ undef → a.tmps[d]? = some y := by
        intro y hy hne
        rw [Array.getD_eq_getD_getElem?] at hy
        cases hq : a.tmps[d]? with
        | none => rw [hq] at hy; exact absurd hy.symm hne
        | some z => rw [hq] at hy; exact congrArg some hy
      cases v <;> first | (cases hw; done) | skip
      · rename_i c
        simp at hw
        generalize hy : a.tmps.getD d undef = y at hv
        cases hv
        rw [hget _ hy (by simp [undef])]
        simp [← hw]
      · cases hw
        generalize hy : a.tmps.getD d undef = y at hv
        cases hv
        rename_i cs' _ _
        rw [Array.getD_eq_getD_getElem?] at hy
        cases hq : a.tmps[d]? with
        | none => simp
        | some z =>
          rw [hq] at hy
          simp only [Option.getD_some] at hy
          subst hy
          simp

theorem Rel.grow {ρ : Ren} {H H2 : Heap} {w : World} (hr : Rel ρ H w) (hn : H.next ≤ H2.next) (hb : ∀ id, id < H.next → H2.blk id = H.blk id) (ht : ∀ id, H2.next ≤ id → H2.blk id = .dead) : Rel ρ H2 w where
  blk {id ro b o n es} h := by rw [hb id (hr.dom (by rw [h]; simp))]; exact hr.blk h
  lt := hr.lt
  inj := hr.inj
  dom h := Nat.lt_of_lt_of_le (hr.dom h) hn
  dead {id} h := by rw [hb id (hr.dom (by rw [h]; simp))]; exact hr.dead h
  top := ht

theorem Ext.grow {ρ0 ρ : Ren} {H0 H H2 : Heap} {w0 w : World} (hx : Ext ρ0 H0 w0 ρ H w) (hn : H.next ≤ H2.next) (hb : ∀ id, id < H.next → H2.blk id = H.blk id) : Ext ρ0 H0 w0 ρ H2 w where
  stay := hx.stay
  out id hi h := ⟨(hx.out id hi h).1, by rw [hb id (Nat.lt_of_lt_of_le hi hx.next)]; exact (hx.out id hi h).2⟩
  next := Nat.le_trans hx.next hn
  size := hx.size
  frame := hx.frame
  old := hx.old
  os := hx.os
  output := hx.output

/-- A block that our order has already made comes to be in the run. -/
theorem rel_mat {ρ : Ren} {H : Heap} {w w' : World} (hr : Rel ρ H w) {id : Nat} (hid : ρ id = .out) (hlt : id < H.next) {O : Obj} (hw : w'.heap = w.heap.push O) {n es : Nat}
    (hB : BlkRel (ρ.upd id (.live false w.heap.size 0 n es)) w' w.heap.size 0 n es false (H.blk id)) : Rel (ρ.upd id (.live false w.heap.size 0 n es)) H w' := by
  have hk : Keeps ρ (ρ.upd id (.live false w.heap.size 0 n es)) := Ren.upd_keeps hid
  have hold : ∀ {i : Nat}, i < w.heap.size → w'.heap[i]? = w.heap[i]? := by
    intro i hi
    rw [hw, Array.getElem?_push, if_neg (by omega)]
  refine ⟨?_, ?_, ?_, ?_, ?_, hr.top⟩
  · intro i ro b' o' n' es' h
    by_cases e : i = id
    · subst e; rw [Ren.upd_self] at h; cases h; exact hB
    · have h' : ρ i = .live ro b' o' n' es' := by simpa [Ren.upd, e] using h
      exact (hr.blk h').mono hk (hold (hr.lt h'))
  · intro i ro b' o' n' es' h
    rw [hw, Array.size_push]
    by_cases e : i = id
    · subst e; rw [Ren.upd_self] at h; cases h; omega
    · have h' : ρ i = .live ro b' o' n' es' := by simpa [Ren.upd, e] using h
      have := hr.lt h'; omega
  · intro i j ro ro' b' o1 o2 n1 n2 e1 e2 h h' hro
    by_cases e : i = id
    · by_cases e' : j = id
      · rw [e, e']
      · subst e
        rw [Ren.upd_self] at h; cases h
        have h'' : ρ j = .live ro' w.heap.size o2 n2 e2 := by simpa [Ren.upd, e'] using h'
        exact absurd (hr.lt h'') (Nat.lt_irrefl _)
    · have hi : ρ i = .live ro b' o1 n1 e1 := by simpa [Ren.upd, e] using h
      by_cases e' : j = id
      · subst e'
        rw [Ren.upd_self] at h'; cases h'
        exact absurd (hr.lt hi) (Nat.lt_irrefl _)
      · have hj : ρ j = .live ro' b' o2 n2 e2 := by simpa [Ren.upd, e'] using h'
        exact hr.inj hi hj hro
  · intro i h
    by_cases e : i = id
    · subst e; exact hlt
    · exact hr.dom (by simpa [Ren.upd, e] using h)
  · intro i h
    by_cases e : i = id
    · subst e; rw [Ren.upd_self] at h; cases h
    · exact hr.dead (by simpa [Ren.upd, e] using h)

theorem Ext.mat {ρ0 ρ : Ren} {H0 H : Heap} {w0 w w' : World} (hx : Ext ρ0 H0 w0 ρ H w) (hd0 : ∀ id, ρ0 id ≠ .out → id < H0.next) {id : Nat} (hid : ρ id = .out) (hge : H0.next ≤ id) {O : Obj} (hw : w'.heap = w.heap.push O) (ho : w'.os = w.os) (hout : w'.output = w.output) {n es : Nat} :
    Ext ρ0 H0 w0 (ρ.upd id (.live false w.heap.size 0 n es)) H w' where
  stay i hi := by
    have : i ≠ id := by have := hd0 i hi; omega
    rw [show (ρ.upd id (.live false w.heap.size 0 n es)) i = ρ i by simp [Ren.upd, this]]
    exact hx.stay i hi
  out i hi h := by
    have : i ≠ id := by omega
    rw [show (ρ.upd id (.live false w.heap.size 0 n es)) i = ρ i by simp [Ren.upd, this]]
    exact hx.out i hi h
  next := hx.next
  size := by rw [hw, Array.size_push]; exact Nat.le_succ_of_le hx.size
  frame b hb hn := by
    rw [hw, Array.getElem?_push, if_neg (by have := hx.size; omega)]
    exact hx.frame b hb hn
  old i o n' es' b h hb := by
    by_cases e : i = id
    · subst e; rw [Ren.upd_self] at h; cases h; exact absurd hx.size (by omega)
    · exact hx.old i o n' es' b (by simpa [Ren.upd, e] using h) hb
  os := ho.trans hx.os
  output := hout.trans hx.output

theorem lk_S {e0 : Env} {S : Nat → Bool} {t : Nat} {A B : List Dn} (hA : ∀ y ∈ A, y.it.dst = some t → S y.it.i = true) (hB : ∀ y ∈ B, y.it.dst = some t → S y.it.i = false) :
    lk (fold e0 ((A ++ B).filter fun x => S x.it.i)) t = lk (fold e0 A) t := by
  rw [fold_filter, fold_filter A, List.filter_append, List.filter_append, List.filter_filter, List.filter_filter]
  have h2 : B.filter (fun x => (x.it.dst == some t) && S x.it.i) = [] := by
    rw [List.filter_eq_nil_iff]
    intro y hy h
    simp only [Bool.and_eq_true, beq_iff_eq] at h
    rw [hB y hy h.1] at h
    cases h.2
  have h1 : A.filter (fun x => (x.it.dst == some t) && S x.it.i) = A.filter (fun x => x.it.dst == some t) := by
    refine List.filter_congr fun y hy => ?_
    cases h : (y.it.dst == some t) with
    | false => rfl
    | true => rw [hA y hy (by simpa using h)]; rfl
  rw [h1, h2, List.append_nil]

theorem lk_last {e0 : Env} {t : Nat} {x : Dn} (hx : x.it.dst = some t) : ∀ {A B : List Dn}, (∀ y ∈ B, y.it.dst ≠ some t) → lk (fold e0 (A ++ x :: B)) t = some x.v := by
  intro A B hB
  rw [fold_append, fold_cons]
  have : ∀ (B : List Dn) (e : Env), (∀ y ∈ B, y.it.dst ≠ some t) → lk (fold e B) t = lk e t := by
    intro B
    induction B with
    | nil => intro e _; rfl
    | cons y B ih =>
      intro e h
      rw [fold_cons, ih _ (fun z hz => h z (by simp [hz])), lk_putE, if_neg (h y (by simp))]
  rw [this B _ hB, lk_putE, if_pos hx]

theorem lk_skip {e0 : Env} {S S' : Nat → Bool} {t : Nat} {D : List Dn} (h : ∀ y ∈ D, y.it.dst = some t → S' y.it.i = S y.it.i) :
    lk (fold e0 (D.filter fun x => S' x.it.i)) t = lk (fold e0 (D.filter fun x => S x.it.i)) t := by
  rw [fold_filter, fold_filter (D.filter fun x => S x.it.i), List.filter_filter, List.filter_filter]
  congr 2
  refine List.filter_congr fun y hy => ?_
  cases hd : (y.it.dst == some t) with
  | false => rfl
  | true => rw [h y hy (by simpa using hd)]

theorem clash_left {x y : It} {t : Nat} (h : x.dst = some t) (h' : t ∈ y.reads ∨ y.dst = some t) : x.clash y = true := by
  unfold It.clash
  rw [h]
  rcases h' with h' | h'
  · simp [h']
  · simp [h']

theorem clash_right {x y : It} {t : Nat} (h : y.dst = some t) (h' : t ∈ x.reads) : x.clash y = true := by
  unfold It.clash
  rw [h]
  simp [h']

theorem pair_clash {x y : It} (h : pairOk M x y = true) (hc : x.clash y = true) : (M y.i).testBit x.i = true := by
  unfold pairOk at h
  simp only [hc, Bool.not_true, Bool.false_or, Bool.and_eq_true] at h
  exact h.1.1

theorem pair_acts {x y : It} (h : pairOk M x y = true) (hc : x.k.acts = true) : (M y.i).testBit x.i = true := by
  unfold pairOk at h
  simp only [hc, Bool.not_true, Bool.false_or, Bool.and_eq_true] at h
  exact h.1.2

theorem pair_reads {x y : It} (h : pairOk M x y = true) (hc : x.k.reads = true) (hy : y.k.acts = true) : (M y.i).testBit x.i = true ∨ x.i ∈ y.keep := by
  unfold pairOk at h
  simp only [hc, hy, Bool.not_true, Bool.false_or, Bool.and_eq_true, Bool.or_eq_true, List.contains_iff_mem] at h
  exact h.2

end
end Go.Cn

/- A region whose order is drawn: every order comes to what our order comes to. -/
namespace Go.Cn
set_option linter.unusedVariables false
set_option linter.unusedSimpArgs false
set_option maxHeartbeats 400000

section
variable {P : Program} {ops : Array Oper} {L : List It} {M : Nat → Nat} {N : Nat}

structure Inv (P : Program) (ops : Array Oper) (L : List It) (M : Nat → Nat) (N : Nat) (Q : Env → Heap → Prop) (e0 : Env) (ρ0 : Ren) (H0 : Heap) (w0 : World) (d0 : List Deferred) (l : Array Bool) (a : Act) (w : World) (ρ : Ren) (H : Heap) (D : List Dn) (R : List It) (pd : List Pnd) : Prop where
  size : l.size = ops.size
  split : L = D.map (·.it) ++ R
  down : ∀ i, l.getD i false = true → ∀ j, (M i).testBit j = true → l.getD j false = true
  sub : ∀ it ∈ R, l.getD it.i false = false
  effD : ∀ x ∈ D, x.it.k.acts = true → l.getD x.it.i false = true
  head : R = [] ∨ ∃ it R', R = it :: R' ∧ it.k.acts = true
  erel : ERel ρ (fold e0 (D.filter fun x => l.getD x.it.i false)) a
  asz : N ≤ a.tmps.size
  dfr : a.defers = d0
  rel : Rel ρ H w
  ext : Ext ρ0 H0 w0 ρ H w
  pend : ∀ D1 x D2, D = D1 ++ x :: D2 → l.getD x.it.i false = false → PendV H pd (fold e0 D1) x ∧ ∀ id, x.nid = some id → ρ id = .out
  ids : ∀ x ∈ D, ∀ y ∈ D, ∀ id, x.nid = some id → y.nid = some id → x.it.i = y.it.i
  idlt : ∀ x ∈ D, ∀ id, x.nid = some id → id < H.next ∧ H0.next ≤ id
  cwp : cwp P R (fold e0 D) H pd Q

theorem nodup_inj {α β : Type} {f : α → β} : ∀ {l : List α}, (l.map f).Nodup → ∀ {x y : α}, x ∈ l → y ∈ l → f x = f y → x = y
  | [], _, x, y, hx, _, _ => by cases hx
  | z :: l, h, x, y, hx, hy, e => by
    rw [List.map_cons, List.nodup_cons] at h
    rcases List.mem_cons.1 hx with rfl | hx'
    · rcases List.mem_cons.1 hy with rfl | hy'
      · rfl
      · exact (h.1 (List.mem_map.2 ⟨y, hy', e.symm⟩)).elim
    · rcases List.mem_cons.1 hy with rfl | hy'
      · exact (h.1 (List.mem_map.2 ⟨x, hx', e⟩)).elim
      · exact nodup_inj h.2 hx' hy' e

theorem setS {l : Array Bool} {i j : Nat} (hi : i < l.size) : (l.setIfInBounds i true).getD j false = (if j = i then true else l.getD j false) := by
  by_cases h : j = i
  · subst h; simp [hi]
  · rw [if_neg h, getD_set_ne false (Ne.symm h)]

theorem erel_put {ρ : Ren} {e e' : Env} {a : Act} {dst : Option Nat} {v : V} {v' : Value} (he : ERel ρ e a) (hv : VRel ρ v v') (hlt : ∀ d, dst = some d → d < a.tmps.size)
    (h : ∀ t, lk e' t = if dst = some t then some v else lk e t) : ERel ρ e' (a.put dst v') := by
  refine ⟨fun t u hu => ?_⟩
  rw [h t] at hu
  by_cases hd : dst = some t
  · rw [if_pos hd] at hu
    cases hu
    subst hd
    have := hlt t rfl
    simp [Act.put, this]
    exact hv
  · rw [if_neg hd] at hu
    have := he.lk t u hu
    cases dst with
    | none => exact this
    | some d =>
      have hne : d ≠ t := fun e => hd (by rw [e])
      simpa [Act.put, Array.getElem?_setIfInBounds_ne hne] using this

theorem put_size (a : Act) (dst : Option Nat) (v : Value) : (a.put dst v).tmps.size = a.tmps.size := by
  cases dst <;> simp [Act.put]
theorem put_defers (a : Act) (dst : Option Nat) (v : Value) : (a.put dst v).defers = a.defers := by
  cases dst <;> simp [Act.put]

variable {Q : Env → Heap → Prop} {e0 : Env} {ρ0 : Ren} {H0 : Heap} {w0 : World} {d0 : List Deferred}

theorem ERel.mono' {ρ ρ' : Ren} {e : Env} {a : Act} (h : Keeps ρ ρ') (he : ERel ρ e a) : ERel ρ' e a := ⟨fun t v hv => (he.lk t v hv).mono h⟩

theorem any_aux (hg : Good P ops L M N) {Qx : Exit → Act → World → Prop} (hd0 : ∀ id, ρ0 id ≠ .out → id < H0.next)
    (hQ : ∀ ρ a w e H, Rel ρ H w → ERel ρ e a → N ≤ a.tmps.size → a.defers = d0 → Ext ρ0 H0 w0 ρ H w → Q e H → Qx .normal a w) :
    ∀ (fuel : Nat) (l : Array Bool) (a : Act) (w : World) (ρ : Ren) (H : Heap) (D : List Dn) (R : List It) (pd : List Pnd), Inv P ops L M N Q e0 ρ0 H0 w0 d0 l a w ρ H D R pd →
      (L.filter fun it => !l.getD it.i false).length = fuel → wpAny P .any ops Qx fuel l a w := by
  -- all is done
  have fin : ∀ (l : Array Bool) (a : Act) (w : World) (ρ : Ren) (H : Heap) (D : List Dn) (R : List It) (pd : List Pnd), Inv P ops L M N Q e0 ρ0 H0 w0 d0 l a w ρ H D R pd →
      (∀ it ∈ L, l.getD it.i false = true) → Qx .normal a w := by
    intro l a w ρ H D R pd I hall
    have hR : R = [] := by
      cases hR : R with
      | nil => rfl
      | cons it R' =>
        have h1 := I.sub it (by rw [hR]; simp)
        rw [hall it (by rw [I.split, hR]; simp)] at h1
        cases h1
    have hc := I.cwp
    rw [hR] at hc
    have hD : D.filter (fun x => l.getD x.it.i false) = D := by
      rw [List.filter_eq_self]
      intro x hx
      exact hall x.it (by rw [I.split]; simp; exact .inl ⟨x, hx, rfl⟩)
    have he := I.erel
    rw [hD] at he
    exact hQ ρ a w _ H I.rel he I.asz I.dfr I.ext hc
  -- the first that is not done is ready
  have first : ∀ (l : Array Bool), l.size = ops.size → ∀ (A : List It) (it : It) (B : List It), L = A ++ it :: B → (∀ y ∈ A, l.getD y.i false = true) → l.getD it.i false = false → it.i ∈ Region.ready .any ops l := by
    intro l hs A it B hL hA hit
    obtain ⟨o, ho, hok⟩ := hg.item it (by rw [hL]; simp)
    rw [mem_ready]
    refine ⟨?_, o, ho, fun x hx hb => ?_⟩
    · have hlt : it.i < l.size := by rw [hs]; exact (Array.getElem?_eq_some_iff.1 ho).1
      simpa [hlt] using hit
    · obtain ⟨y, hy, hyx⟩ := hg.topo A it B hL o ho x hx hb
      rw [← hyx]; exact hA y hy
  have done_of_ready : ∀ (l : Array Bool), l.size = ops.size → Region.ready .any ops l = [] → ∀ it ∈ L, l.getD it.i false = true := by
    intro l hs hr
    have : ∀ (B A : List It), L = A ++ B → (∀ y ∈ A, l.getD y.i false = true) → ∀ y ∈ B, l.getD y.i false = true := by
      intro B
      induction B with
      | nil => intro A _ _ y hy; cases hy
      | cons it B ihB =>
        intro A hL hA y hy
        have hit : l.getD it.i false = true := by
          cases hb : l.getD it.i false with
          | true => rfl
          | false =>
            have := first l hs A it B hL hA hb
            rw [hr] at this
            cases this
        rcases List.mem_cons.1 hy with rfl | hy
        · exact hit
        · refine ihB (A ++ [it]) (by simpa using hL) (fun z hz => ?_) y hy
          rcases List.mem_append.1 hz with hz | hz
          · exact hA z hz
          · simp at hz; subst hz; exact hit
    exact this L [] rfl (by simp)
  intro fuel
  induction fuel with
  | zero =>
    intro l a w ρ H D R pd I hf
    have hall : ∀ it ∈ L, l.getD it.i false = true := by
      intro it hit
      have := List.length_eq_zero_iff.1 hf
      rw [List.filter_eq_nil_iff] at this
      simpa using this it hit
    refine ⟨?_, fin l a w ρ H D R pd I hall⟩
    refine List.eq_nil_iff_forall_not_mem.2 fun j hj => ?_
    obtain ⟨h1, o, ho, _⟩ := mem_ready.1 hj
    have hlt := (Array.getElem?_eq_some_iff.1 ho).1
    obtain ⟨it, hit, rfl⟩ := hg.all j hlt
    have := hall it hit
    have hlt' : it.i < l.size := by rw [I.size]; exact hlt
    simp [hlt'] at this h1
    rw [this] at h1
    cases h1
  | succ fuel ih =>
    intro l a w ρ H D R pd I hf
    refine ⟨fun hr => fin l a w ρ H D R pd I (done_of_ready l I.size hr), fun j hj => ?_⟩
    obtain ⟨h1, o, ho, hready⟩ := mem_ready.1 hj
    have hlt := (Array.getElem?_eq_some_iff.1 ho).1
    have hltl : j < l.size := by rw [I.size]; exact hlt
    obtain ⟨it, hit, hij⟩ := hg.all j hlt
    have hjS : l.getD it.i false = false := by rw [hij]; simpa [hltl] using h1
    -- what must be ahead is ahead
    have hM : ∀ i, (M it.i).testBit i = true → l.getD i false = true := by
      intro i hi
      obtain ⟨x, hx, hb, h⟩ := hg.mask it.i o (by rw [hij]; exact ho) i hi
      have hx' := hready x hx hb
      rcases h with h | h
      · rw [← h]; exact hx'
      · exact I.down x.on hx' i h
    have hitem : ItOk P ops N o it := by
      obtain ⟨o', ho', hok⟩ := hg.item it hit
      rw [hij] at ho'
      rw [ho] at ho'
      cases ho'
      exact hok
    have hsz : (l.setIfInBounds it.i true).size = ops.size := by simp [I.size]
    have hset : ∀ i, (l.setIfInBounds it.i true).getD i false = (if i = it.i then true else l.getD i false) := fun i => setS (by rw [hij]; exact hltl)
    have hdown : ∀ i, (l.setIfInBounds it.i true).getD i false = true → ∀ j, (M i).testBit j = true → (l.setIfInBounds it.i true).getD j false = true := by
      intro i hi j hj
      rw [hset] at hi ⊢
      split
      · rfl
      · split at hi
        · rename_i h; subst h; exact hM j hj
        · exact I.down i hi j hj
    have huniq : ∀ y ∈ L, y.i = it.i → y = it := fun y hy h => nodup_inj hg.nodup hy hit h
    have hcount : (L.filter fun x => !(l.setIfInBounds it.i true).getD x.i false).length = fuel := by
      have h2 : (L.filter fun x => !l.getD x.i false).length = (L.filter fun x => !(l.setIfInBounds it.i true).getD x.i false).length + 1 := by
        obtain ⟨A, B, hAB⟩ := List.append_of_mem hit
        have hnd := hg.nodup
        rw [hAB, List.map_append, List.map_cons, List.nodup_append] at hnd
        obtain ⟨n1, n2, n3⟩ := hnd
        have nA : ∀ y ∈ A, y.i ≠ it.i := fun y hy e => n3 _ (List.mem_map.2 ⟨y, hy, rfl⟩) it.i (by simp) e
        have nB : ∀ y ∈ B, y.i ≠ it.i := fun y hy e => (List.nodup_cons.1 n2).1 (List.mem_map.2 ⟨y, hy, e⟩)
        have eA : A.filter (fun x => !(l.setIfInBounds it.i true).getD x.i false) = A.filter (fun x => !l.getD x.i false) :=
          List.filter_congr fun y hy => by rw [hset, if_neg (nA y hy)]
        have eB : B.filter (fun x => !(l.setIfInBounds it.i true).getD x.i false) = B.filter (fun x => !l.getD x.i false) :=
          List.filter_congr fun y hy => by rw [hset, if_neg (nB y hy)]
        rw [hAB, List.filter_append, List.filter_append, List.filter_cons, List.filter_cons, hjS, hset, if_pos rfl, eA, eB]
        simp
        omega
      rw [hf] at h2
      omega
    rw [← hij]
    have hoi : ops[it.i]? = some o := by rw [hij]; exact ho
    have hltd : ∀ d, it.dst = some d → d < a.tmps.size := fun d hd => Nat.lt_of_lt_of_le (hitem.lt d hd) I.asz
    rcases List.mem_append.1 (I.split ▸ hit) with hD | hR
    · -- one that our order has done
      obtain ⟨x, hx, rfl⟩ := List.mem_map.1 hD
      obtain ⟨D1, D2, hDD⟩ := List.append_of_mem hx
      obtain ⟨hp, hout⟩ := I.pend D1 x D2 hDD hjS
      have hpair := hg.pair
      rw [I.split, hDD, List.map_append, List.map_cons, List.append_assoc, List.pairwise_append] at hpair
      obtain ⟨p1, p2, p3⟩ := hpair
      have hA : ∀ y ∈ D1, pairOk M y.it x.it = true := fun y hy => p3 _ (List.mem_map.2 ⟨y, hy, rfl⟩) _ (by simp)
      rw [List.cons_append, List.pairwise_cons] at p2
      have hB : ∀ y ∈ D2, pairOk M x.it y.it = true := fun y hy => p2.1 _ (List.mem_append_left _ (List.mem_map.2 ⟨y, hy, rfl⟩))
      have hD2 : ∀ y ∈ D2, x.it.clash y.it = true → l.getD y.it.i false = false := by
        intro y hy hc
        cases hb : l.getD y.it.i false with
        | false => rfl
        | true => rw [I.down _ hb _ (pair_clash (hB y hy) hc)] at hjS; cases hjS
      -- what it looks at is as in our order
      have look : ∀ t ∈ x.it.reads, lk (fold e0 (D.filter fun y => l.getD y.it.i false)) t = lk (fold e0 D1) t := by
        intro t ht
        rw [hDD]
        refine lk_S (S := fun i => l.getD i false) (fun y hy hd => hM _ (pair_clash (hA y hy) (clash_left hd (.inl ht)))) (fun y hy hd => ?_)
        rcases List.mem_cons.1 hy with rfl | hy
        · exact hjS
        · exact hD2 y hy (clash_right hd ht)
      -- what is written
      have wrote : ∀ t, lk (fold e0 (D.filter fun y => (l.setIfInBounds x.it.i true).getD y.it.i false)) t = if x.it.dst = some t then some x.v else lk (fold e0 (D.filter fun y => l.getD y.it.i false)) t := by
        intro t
        split
        · rename_i hd
          have e1 : D.filter (fun y => (l.setIfInBounds x.it.i true).getD y.it.i false) = D1.filter (fun y => (l.setIfInBounds x.it.i true).getD y.it.i false) ++ x :: D2.filter (fun y => (l.setIfInBounds x.it.i true).getD y.it.i false) := by
            rw [hDD, List.filter_append, List.filter_cons, hset, if_pos rfl]
            rfl
          rw [e1]
          refine lk_last hd fun y hy hyd => ?_
          obtain ⟨hy1, hy2⟩ := List.mem_filter.1 hy
          rw [hset] at hy2
          split at hy2
          · rename_i he
            have hnd := hg.nodup
            rw [I.split, hDD] at hnd
            simp only [List.map_append, List.map_cons, List.append_assoc] at hnd
            rw [List.nodup_append] at hnd
            have := (List.nodup_cons.1 (List.cons_append ▸ hnd.2.1)).1
            refine this ?_
            rw [← he]
            simp
            exact .inl ⟨y, hy1, rfl⟩
          · rw [hD2 y hy1 (clash_left hd (.inr hyd))] at hy2
            cases hy2
        · rename_i hd
          refine lk_skip (S := fun i => l.getD i false) (S' := fun i => (l.setIfInBounds x.it.i true).getD i false) fun y hy hyd => ?_
          show (l.setIfInBounds x.it.i true).getD y.it.i false = _
          rw [hset]
          split
          · rename_i he
            have := huniq y.it (by rw [I.split]; simp; exact .inl ⟨y, hy, rfl⟩) he
            rw [this] at hyd
            exact absurd hyd hd
          · rfl
      -- what comes of it
      have next : ∀ (ρ' : Ren) (v' : Value) (w' : World), Rel ρ' H w' → Ext ρ0 H0 w0 ρ' H w' → Keeps ρ ρ' → VRel ρ' x.v v' → (∀ y ∈ D, y.it.i ≠ x.it.i → l.getD y.it.i false = false → ∀ id, y.nid = some id → ρ' id = .out) →
          wpAny P .any ops Qx fuel (l.setIfInBounds x.it.i true) (a.put o.dst v') w' := by
        intro ρ' v' w' hr' hx' hk' hv' hout'
        rw [← hitem.dst]
        refine ih _ _ _ ρ' H D R pd ⟨hsz, I.split, hdown, ?_, ?_, I.head, erel_put (I.erel.mono' hk') hv' hltd wrote, by rw [put_size]; exact I.asz, by rw [put_defers]; exact I.dfr, hr', hx', ?_, I.ids, I.idlt, I.cwp⟩ hcount
        · intro y hy
          rw [hset]
          split
          · rename_i he
            have h1 : y = x.it := huniq y (by rw [I.split]; exact List.mem_append_right _ hy) he
            have hnd := hg.nodup
            rw [I.split, List.map_append, List.nodup_append] at hnd
            exact absurd he (fun e => hnd.2.2 x.it.i (by simp; exact ⟨x, hx, rfl⟩) y.i (List.mem_map.2 ⟨y, hy, rfl⟩) e.symm)
          · exact I.sub y hy
        · intro y hy hk
          rw [hset]
          split
          · rfl
          · exact I.effD y hy hk
        · intro E1 y E2 hE hyS
          rw [hset] at hyS
          split at hyS
          · cases hyS
          · rename_i hne
            refine ⟨(I.pend E1 y E2 hE hyS).1, fun id hid => hout' y (by rw [hE]; simp) hne hyS id hid⟩
      have hother : ∀ y ∈ D, y.it.i ≠ x.it.i → l.getD y.it.i false = false → ∀ id, y.nid = some id → ρ id = .out := by
        intro y hy _ hyS id hid
        obtain ⟨E1, E2, hE⟩ := List.append_of_mem hy
        exact (I.pend E1 y E2 hE hyS).2 id hid
      unfold wpOp
      simp only [hoi]
      have hw : ∀ b, wantE (fold e0 D1) x.it.g = some b → Region.wanted o (yielded ops a.tmps) = b := by
        intro b hb
        refine wanted_ok hitem I.erel ?_
        rw [← hb]
        exact wantE_congr fun d w hd => look d (It.reads_g hd)
      rcases hp with ⟨hw0, hv⟩ | ⟨hw1, vs, eff, hvs, hne, hrd, heff⟩
      · rw [if_neg (by rw [hw _ hw0]; simp)]
        exact next ρ undef w I.rel I.ext (Keeps.refl ρ) (by rw [hv]; exact VRel.undef) hother
      · rw [if_pos (hw _ hw1)]
        refine .inl ?_
        have hvs' : evs (fold e0 (D.filter fun y => l.getD y.it.i false)) x.it.ys = some vs := by
          rw [← hvs]
          exact evs_congr fun t ht => look t (It.reads_opd ht)
        have hacts : x.it.k.acts = false := by
          cases hka : x.it.k.acts with
          | false => rfl
          | true => rw [I.effD x hx hka] at hjS; cases hjS
        have hok := ne_sim (hitem.cop (notActs_notBad hacts)) hacts I.erel hvs' I.rel hne
        unfold Oper.wp
        cases eff with
        | val u =>
          obtain ⟨v', hrun, hv'⟩ := hok
          rw [hrun, Oper.upon_value]
          have hxv : x.v = u := heff
          exact next ρ v' w I.rel I.ext (Keeps.refl ρ) (by rw [hxv]; exact hv') hother
        | new B mk =>
          obtain ⟨v', O, w', hrun, hh, hos, hop, n, es, hnew⟩ := hok
          obtain ⟨id, hnid, hxv, hidlt, hidb⟩ := heff
          rw [hrun, Oper.upon_value]
          have hido := hout id hnid
          obtain ⟨g1, g2⟩ := hnew id hido
          refine next _ v' w' (rel_mat I.rel hido hidlt hh (by rw [hidb]; exact g2)) (I.ext.mat hd0 hido (I.idlt x hx id hnid).2 hh hos hop) (Ren.upd_keeps hido) (by rw [hxv]; exact g1) ?_
          intro y hy hne hyS id' hid'
          have : id' ≠ id := by
            rintro rfl
            exact hne (I.ids y hy x hx id' hid' hnid)
          rw [show (ρ.upd id (.live false w.heap.size 0 n es)) id' = ρ id' by simp [Ren.upd, this]]
          exact hother y hy hne hyS id' hid'
    · -- the next that acts
      have hhead : ∃ R', R = it :: R' ∧ it.k.acts = true := by
        rcases I.head with h | ⟨it', R', h, hk⟩
        · rw [h] at hR; cases hR
        · rw [h] at hR
          rcases List.mem_cons.1 hR with rfl | hR'
          · exact ⟨R', h, hk⟩
          · have hpair := hg.pair
            rw [I.split, h, List.pairwise_append] at hpair
            have := (List.pairwise_cons.1 hpair.2.1).1 it hR'
            have := hM _ (pair_acts this hk)
            rw [I.sub it' (by rw [h]; simp)] at this
            cases this
      obtain ⟨R', hRR, hk⟩ := hhead
      have hpair := hg.pair
      rw [I.split, hRR, List.pairwise_append] at hpair
      have hA : ∀ y ∈ D, pairOk M y.it it = true := fun y hy => hpair.2.2 _ (List.mem_map.2 ⟨y, hy, rfl⟩) _ (by simp)
      have hnd := hg.nodup
      rw [I.split, hRR, List.map_append, List.map_cons, List.nodup_append] at hnd
      have nD : ∀ y ∈ D, y.it.i ≠ it.i := fun y hy e => hnd.2.2 y.it.i (by simp; exact ⟨y, hy, rfl⟩) it.i (by simp) e
      have nR : ∀ y ∈ R', y.i ≠ it.i := fun y hy e => (List.nodup_cons.1 hnd.2.1).1 (List.mem_map.2 ⟨y, hy, e⟩)
      have look : ∀ t ∈ it.reads, lk (fold e0 (D.filter fun y => l.getD y.it.i false)) t = lk (fold e0 D) t := by
        intro t ht
        have := lk_S (e0 := e0) (S := fun i => l.getD i false) (t := t) (A := D) (B := []) (fun y hy hd => hM _ (pair_clash (hA y hy) (clash_left hd (.inl ht)))) (by simp)
        simpa using this
      have hw : ∀ b, wantE (fold e0 D) it.g = some b → Region.wanted o (yielded ops a.tmps) = b := by
        intro b hb
        refine wanted_ok hitem I.erel ?_
        rw [← hb]
        exact wantE_congr fun d w hd => look d (It.reads_g hd)
      have hD0 : D.filter (fun y => (l.setIfInBounds it.i true).getD y.it.i false) = D.filter (fun y => l.getD y.it.i false) :=
        List.filter_congr fun y hy => by rw [hset, if_neg (nD y hy)]
      -- what comes of it: on to the next that acts
      have next : ∀ (ρ' : Ren) (v : V) (v' : Value) (H' : Heap) (w' : World) (pd' : List Pnd), Rel ρ' H' w' → Ext ρ H w ρ' H' w' → VRel ρ' v v' → cwp P R' (putE (fold e0 D) it.dst v) H' pd' Q →
          (∀ D1 x D2, D = D1 ++ x :: D2 → l.getD x.it.i false = false → PendV H' pd' (fold e0 D1) x) → wpAny P .any ops Qx fuel (l.setIfInBounds it.i true) (a.put o.dst v') w' := by
        intro ρ' v v' H' w' pd' hr' hx' hv' hc hpend
        rw [← hitem.dst]
        obtain ⟨D2, R2, H2, pd2, a1, a2, a3, a4, a5, a6, a7, a8, a9, a10, a11⟩ := advance R' _ H' pd' hr'.top hc
        have hfold : fold e0 (D ++ ⟨it, v, none⟩ :: D2) = fold (putE (fold e0 D) it.dst v) D2 := by
          rw [fold_append, fold_cons]
        have inR' : ∀ y ∈ D2, y.it ∈ R' := fun y hy => by rw [a1]; exact List.mem_append_left _ (List.mem_map.2 ⟨y, hy, rfl⟩)
        have hgrow : ∀ id, H'.blk id ≠ .dead → H2.blk id = H'.blk id := by
          intro id hid
          refine a6 id ?_
          rcases Nat.lt_or_ge id H'.next with h | h
          · exact h
          · exact absurd (hr'.top id h) hid
        have hS2 : ∀ y ∈ D2, (l.setIfInBounds it.i true).getD y.it.i false = false := by
          intro y hy
          rw [hset, if_neg (nR _ (inR' y hy))]
          exact I.sub _ (by rw [hRR]; exact List.mem_cons_of_mem _ (inR' y hy))
        have hfil : (D ++ ⟨it, v, none⟩ :: D2).filter (fun y => (l.setIfInBounds it.i true).getD y.it.i false) = D.filter (fun y => l.getD y.it.i false) ++ [⟨it, v, none⟩] := by
          have : D2.filter (fun y => (l.setIfInBounds it.i true).getD y.it.i false) = [] := by
            rw [List.filter_eq_nil_iff]
            intro y hy
            rw [hS2 y hy]; simp
          rw [List.filter_append, List.filter_cons, hD0, this, hset, if_pos rfl]
          rfl
        refine ih _ _ _ ρ' H2 (D ++ ⟨it, v, none⟩ :: D2) R2 pd2 ⟨hsz, ?_, hdown, ?_, ?_, a2, ?_, by rw [put_size]; exact I.asz, by rw [put_defers]; exact I.dfr, hr'.grow a5 a6 a7, (I.ext.trans hx').grow a5 a6, ?_, ?_, ?_, by rw [hfold]; exact a3⟩ hcount
        · rw [I.split, hRR, a1]; simp
        · intro y hy
          have hy' : y ∈ R' := by rw [a1]; exact List.mem_append_right _ hy
          rw [hset, if_neg (nR y hy')]
          exact I.sub y (by rw [hRR]; exact List.mem_cons_of_mem _ hy')
        · intro y hy hyk
          rcases List.mem_append.1 hy with hy | hy
          · rw [hset]
            split
            · rfl
            · exact I.effD y hy hyk
          · rcases List.mem_cons.1 hy with rfl | hy
            · rw [hset, if_pos rfl]
            · rw [a4 y hy] at hyk; cases hyk
        · rw [hfil]
          refine erel_put (I.erel.mono' hx'.keeps) hv' hltd fun t => ?_
          rw [fold_append]
          show lk (putE _ it.dst v) t = _
          rw [lk_putE]
        · intro E1 y E2 hE hyS
          -- where does it stand?
          rcases List.append_eq_append_iff.1 hE with ⟨F, hF1, hF2⟩ | ⟨F, hF1, hF2⟩
          · -- E1 = D ++ F, ⟨it..⟩ :: D2 = F ++ y :: E2
            cases F with
            | nil =>
              simp only [List.nil_append, List.cons.injEq] at hF2
              obtain ⟨rfl, _⟩ := hF2
              rw [hset, if_pos rfl] at hyS
              cases hyS
            | cons z F =>
              simp only [List.cons_append, List.cons.injEq] at hF2
              obtain ⟨rfl, hF2⟩ := hF2
              have h1 := a9 F y E2 hF2
              refine ⟨?_, fun id hid => ?_⟩
              · rw [hF1, fold_append, fold_cons]
                exact h1
              · have h3 := a10 y (by rw [hF2]; simp) id hid
                cases hq : ρ' id with
                | out => rfl
                | _ => exact absurd (hr'.dom (id := id) (by rw [hq]; simp)) (Nat.not_lt.2 h3.1)
          · -- D = E1 ++ F, y :: E2 = F ++ ⟨it..⟩ :: D2
            cases F with
            | nil =>
              simp only [List.nil_append, List.cons.injEq] at hF2
              obtain ⟨rfl, _⟩ := hF2
              rw [hset, if_pos rfl] at hyS
              cases hyS
            | cons z F =>
              simp only [List.cons_append, List.cons.injEq] at hF2
              obtain ⟨rfl, hF2⟩ := hF2
              have hyD : y ∈ D := by rw [hF1]; simp
              rw [hset, if_neg (nD y hyD)] at hyS
              refine ⟨(hpend E1 y F hF1 hyS).grow hgrow a6 a5 a8, fun id hid => ?_⟩
              have h3 := (I.pend E1 y F hF1 hyS).2 id hid
              exact (hx'.out id (I.idlt y hyD id hid).1 h3).1
        · intro y hy z hz id hyi hzi
          have lowD : ∀ y ∈ D, ∀ id, y.nid = some id → id < H'.next := fun y hy id h => Nat.lt_of_lt_of_le (I.idlt y hy id h).1 hx'.next
          rcases List.mem_append.1 hy with hy | hy
          · rcases List.mem_append.1 hz with hz | hz
            · exact I.ids y hy z hz id hyi hzi
            · rcases List.mem_cons.1 hz with rfl | hz
              · cases hzi
              · exact absurd (lowD y hy id hyi) (Nat.not_lt.2 (a10 z hz id hzi).1)
          · rcases List.mem_cons.1 hy with rfl | hy
            · cases hyi
            · rcases List.mem_append.1 hz with hz | hz
              · exact absurd (lowD z hz id hzi) (Nat.not_lt.2 (a10 y hy id hyi).1)
              · rcases List.mem_cons.1 hz with rfl | hz
                · cases hzi
                · exact a11 y hy z hz id hyi hzi
        · intro y hy id hid
          rcases List.mem_append.1 hy with hy | hy
          · exact ⟨Nat.lt_of_lt_of_le (I.idlt y hy id hid).1 (Nat.le_trans hx'.next a5), (I.idlt y hy id hid).2⟩
          · rcases List.mem_cons.1 hy with rfl | hy
            · cases hid
            · exact ⟨(a10 y hy id hid).2, Nat.le_trans (Nat.le_trans I.ext.next hx'.next) (a10 y hy id hid).1⟩
      unfold wpOp
      simp only [hoi]
      have hc := I.cwp
      rw [hRR] at hc
      unfold Cn.cwp at hc
      split at hc
      · cases hc
      · rename_i hw0
        rw [if_neg (by rw [hw _ hw0]; simp)]
        exact next ρ V.undef undef H w pd I.rel (Ext.refl ρ H w) VRel.undef hc fun D1 x D2 hD hS => (I.pend D1 x D2 hD hS).1
      · rename_i hw1
        rw [if_pos (hw _ hw1)]
        refine .inl ?_
        split at hc
        · cases hc
        rename_i vs hvs
        rw [if_pos hk] at hc
        have hvs' : evs (fold e0 (D.filter fun y => l.getD y.it.i false)) it.ys = some vs := by
          rw [← hvs]
          exact evs_congr fun t ht => look t (It.reads_opd ht)
        refine act_sim (hitem.cop hc.notBad) hk I.erel hvs' I.rel hc ?_
        rintro ρ' v v' H' w' hv' hr' hx' ⟨hag, hcw⟩
        refine next ρ' v v' H' w' _ hr' hx' hv' hcw ?_
        intro D1 x D2 hD hS
        obtain ⟨hp, hout⟩ := I.pend D1 x D2 hD hS
        have hxD : x ∈ D := by rw [hD]; simp
        rcases hp with h | ⟨hw1', vs', eff, hvs1, hne, hrd, heff⟩
        · exact .inl h
        · have hkeep : x.it.k.reads = true → (⟨x.it.i, x.it.k, vs', eff⟩ : Pnd) ∈ pd.filter fun p => it.keep.contains p.i := by
            intro hrk
            rw [List.mem_filter]
            refine ⟨hrd hrk, ?_⟩
            rcases pair_reads (hA x hxD) hrk hk with h | h
            · rw [hM _ h] at hS; cases hS
            · simpa using h
          refine .inr ⟨hw1', vs', eff, hvs1, ?_, hkeep, ?_⟩
          · cases hrk : x.it.k.reads with
            | false => rw [← ne_still hrk H H']; exact hne
            | true => exact hag _ (hkeep hrk)
          · cases eff with
            | val u => exact heff
            | new B mk =>
              obtain ⟨id, e1, e2, e3, e4⟩ := heff
              refine ⟨id, e1, e2, Nat.lt_of_lt_of_le e3 hx'.next, ?_⟩
              rw [(hx'.out id e3 (hout id e1)).2]
              exact e4

end
end Go.Cn
