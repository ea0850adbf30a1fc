/- Walking code made ready, one operation at a time. -/
import Derived.Test.YtlnpgjfdlefmoaaGreatDoorCnMake
namespace Go.Cn
set_option linter.unusedVariables false
set_option linter.unusedSimpArgs false

section
variable {P : Program} {Q : AEx → Env → Heap → Prop} {R : Env → Heap → Prop} {e : Env} {H : Heap} {pd : List Pnd} {rest : List It} {i : Nat} {dst : Option Nat} {g : Option (Nat × Bool)} {k : Kind} {ys : List Opd} {keep : List Nat} {vs : List V} {v : V}

theorem w_seq {a b : AC} (h : acwp P a (AEx.then (acwp P b Q) Q) e H) : acwp P (.seq a b) Q e H := h
theorem w_reg {L : List It} (h : cwp P L e H [] (Q .normal)) : acwp P (.reg L) Q e H := h
theorem w_skip (h : Q .normal e H) : acwp P .skip Q e H := h
theorem w_exit {id : Nat} (h : Q (.exit id) e H) : acwp P (.exit id) Q e H := h
theorem w_ret (h : Q .ret e H) : acwp P .ret Q e H := h
theorem w_block {id : Nat} {a : AC} (h : acwp P a (AEx.inBlock id Q) e H) : acwp P (.block id a) Q e H := h
theorem w_true {c : Opd} {a b : AC} (hc : ev e c = some (.bool true)) (h : acwp P a Q e H) : acwp P (.cond c a b) Q e H := by
  simp only [acwp, hc]; exact h
theorem w_false {c : Opd} {a b : AC} (hc : ev e c = some (.bool false)) (h : acwp P b Q e H) : acwp P (.cond c a b) Q e H := by
  simp only [acwp, hc]; exact h
theorem w_cond {c : Opd} {a b : AC} {t : Bool} (hc : ev e c = some (.bool t)) (h : t = true → acwp P a Q e H) (h' : t = false → acwp P b Q e H) : acwp P (.cond c a b) Q e H := by
  cases t
  · exact w_false hc (h' rfl)
  · exact w_true hc (h rfl)
theorem w_loop {a : AC} (I : Nat → Env → Heap → Prop) (n : Nat) (h : I n e H) (h' : ∀ n e H, I n e H → acwp P a (AEx.then (fun e H => ∃ m, m < n ∧ I m e H) Q) e H) : acwp P (.loop a) Q e H := ⟨I, ⟨n, h⟩, h'⟩
theorem t_normal {K : Env → Heap → Prop} (h : K e H) : AEx.then K Q .normal e H := h
theorem t_exit {K : Env → Heap → Prop} {id : Nat} (h : Q (.exit id) e H) : AEx.then K Q (.exit id) e H := h
theorem t_ret {K : Env → Heap → Prop} (h : Q .ret e H) : AEx.then K Q .ret e H := h
theorem b_normal {id : Nat} (h : Q .normal e H) : AEx.inBlock id Q .normal e H := h
theorem b_here {id : Nat} (h : Q .normal e H) : AEx.inBlock id Q (.exit id) e H := by
  simp only [AEx.inBlock, if_true]; exact h
theorem b_on {id j : Nat} (hj : j ≠ id) (h : Q (.exit j) e H) : AEx.inBlock id Q (.exit j) e H := by
  simp only [AEx.inBlock, if_neg hj]; exact h
theorem b_ret {id : Nat} (h : Q .ret e H) : AEx.inBlock id Q .ret e H := h

theorem s_nil (h : R e H) : cwp P [] e H pd R := h

theorem s_skip (hw : wantE e g = some false) (h : cwp P rest (putE e dst V.undef) H pd R) : cwp P (⟨i, dst, g, k, ys, keep⟩ :: rest) e H pd R := by
  unfold cwp; simp only [hw]; exact h

/-- A word that hangs on no memory. -/
theorem s_val (hw : wantE e g = some true) (hv : evs e ys = some vs) (ha : k.acts = false) (hr : k.reads = false) (hn : k.ne H vs = some (.val v)) (h : cwp P rest (putE e dst v) H pd R) :
    cwp P (⟨i, dst, g, k, ys, keep⟩ :: rest) e H pd R := by
  unfold cwp
  simp only [hw, hv, ha, hn, hr, Bool.false_eq_true, if_false]
  exact h

/-- A word read from memory. -/
theorem s_read (hw : wantE e g = some true) (hv : evs e ys = some vs) (ha : k.acts = false) (hr : k.reads = true) (hn : k.ne H vs = some (.val v)) (h : cwp P rest (putE e dst v) H (⟨i, k, vs, .val v⟩ :: pd) R) :
    cwp P (⟨i, dst, g, k, ys, keep⟩ :: rest) e H pd R := by
  unfold cwp
  simp only [hw, hv, ha, hn, hr, Bool.false_eq_true, if_false, if_true]
  exact h

theorem s_new {B : Blk} {mk : Nat → V} (hw : wantE e g = some true) (hv : evs e ys = some vs) (ha : k.acts = false) (hr : k.reads = false) (hn : k.ne H vs = some (.new B mk)) (h : cwp P rest (putE e dst (mk H.next)) (H.push B) pd R) :
    cwp P (⟨i, dst, g, k, ys, keep⟩ :: rest) e H pd R := by
  unfold cwp
  simp only [hw, hv, ha, hn, hr, Bool.false_eq_true, if_false]
  exact h

theorem s_rng {B : Blk} {mk : Nat → V} (hw : wantE e g = some true) (hv : evs e ys = some vs) (ha : k.acts = false) (hr : k.reads = true) (hn : k.ne H vs = some (.new B mk)) (h : cwp P rest (putE e dst (mk H.next)) (H.push B) (⟨i, k, vs, .new B mk⟩ :: pd) R) :
    cwp P (⟨i, dst, g, k, ys, keep⟩ :: rest) e H pd R := by
  unfold cwp
  simp only [hw, hv, ha, hn, hr, Bool.false_eq_true, if_false, if_true]
  exact h

/-- Kinds that change memory, but for calls and iterations. -/
def Kind.plainEf : Kind → Bool
  | .st _ | .app _ _ | .appStr | .cpy _ | .mset _ _ | .del _ _ | .clr _ => true
  | _ => false

theorem s_ef {H' : Heap} (hw : wantE e g = some true) (hv : evs e ys = some vs) (hp : k.plainEf = true) (hn : k.ef H vs = some (v, H')) (hk : ∀ p ∈ pd.filter (fun p => keep.contains p.i), p.k.ne H' p.vs = some p.eff) (h : cwp P rest (putE e dst v) H' (pd.filter fun p => keep.contains p.i) R) :
    cwp P (⟨i, dst, g, k, ys, keep⟩ :: rest) e H pd R := by
  unfold cwp
  have ha : k.acts = true := by cases k <;> first | rfl | (cases hp; done)
  simp only [hw, hv, ha, if_true]
  have : ActT P k vs H fun v H' => (∀ p ∈ pd.filter (fun p => keep.contains p.i), p.k.ne H' p.vs = some p.eff) ∧ cwp P rest (putE e dst v) H' (pd.filter fun p => keep.contains p.i) R := by
    cases k <;> first | (cases hp; done) | (simp only [ActT]; rw [hn]; exact ⟨hk, h⟩)
  exact this

theorem keep_nil (pd : List Pnd) : pd.filter (fun p => ([] : List Nat).contains p.i) = [] := by
  rw [List.filter_eq_nil_iff]; intro a _; simp

/-- .. where no read is kept. -/
theorem s_ef0 {H' : Heap} (hw : wantE e g = some true) (hv : evs e ys = some vs) (hp : k.plainEf = true) (hn : k.ef H vs = some (v, H')) (h : cwp P rest (putE e dst v) H' [] R) :
    cwp P (⟨i, dst, g, k, ys, []⟩ :: rest) e H pd R :=
  s_ef hw hv hp hn (by rw [keep_nil]; simp) (by rw [keep_nil]; exact h)

theorem s_call {f : FuncId} (hw : wantE e g = some true) (hv : evs e ys = some vs) (h : CallT P f vs H fun v H' => (∀ p ∈ pd.filter (fun p => keep.contains p.i), p.k.ne H' p.vs = some p.eff) ∧ cwp P rest (putE e dst v) H' (pd.filter fun p => keep.contains p.i) R) :
    cwp P (⟨i, dst, g, .call f, ys, keep⟩ :: rest) e H pd R := by
  unfold cwp
  simp only [hw, hv]
  exact h

theorem s_call0 {f : FuncId} (hw : wantE e g = some true) (hv : evs e ys = some vs) (h : CallT P f vs H fun v H' => cwp P rest (putE e dst v) H' [] R) :
    cwp P (⟨i, dst, g, .call f, ys, []⟩ :: rest) e H pd R :=
  s_call hw hv (h.mono fun v H' h => ⟨by rw [keep_nil]; simp, by rw [keep_nil]; exact h⟩)

/-- Not a comparison. -/
def Kind.flat : Kind → Bool
  | .bin .lss | .bin .leq | .bin .gtr | .bin .geq | .bin .eql | .bin .neq => false
  | _ => true

theorem s_flat (hf : k.flat = true) (hw : wantE e g = some true) (hv : evs e ys = some vs) (ha : k.acts = false) (hr : k.reads = false) (hn : k.ne H vs = some (.val v)) (h : cwp P rest (putE e dst v) H pd R) :
    cwp P (⟨i, dst, g, k, ys, keep⟩ :: rest) e H pd R := s_val hw hv ha hr hn h

end
end Go.Cn

/- What is there stays; new blocks come. -/
namespace Go.Cn
set_option linter.unusedVariables false
set_option linter.unusedSimpArgs false

structure Grow (H H' : Heap) : Prop where
  le : H.next ≤ H'.next
  old : ∀ id, id < H.next → H'.blk id = H.blk id

theorem Grow.refl (H : Heap) : Grow H H := ⟨Nat.le_refl _, fun _ _ => rfl⟩
theorem Grow.trans {H H1 H2 : Heap} (h : Grow H H1) (h' : Grow H1 H2) : Grow H H2 :=
  ⟨Nat.le_trans h.le h'.le, fun id hi => (h'.old id (Nat.lt_of_lt_of_le hi h.le)).trans (h.old id hi)⟩

theorem push_new (H : Heap) (B : Blk) : (H.push B).blk H.next = B := by simp [Heap.push]
theorem push_next (H : Heap) (B : Blk) : (H.push B).next = H.next + 1 := rfl
theorem push_old {H : Heap} {B : Blk} {id : Nat} (h : id < H.next) : (H.push B).blk id = H.blk id := by
  have : ¬ id = H.next := by omega
  simp [Heap.push, this]
theorem set_same (H : Heap) (id : Nat) (B : Blk) : (H.set id B).blk id = B := by simp [Heap.set]
theorem set_ne {H : Heap} {id j : Nat} {B : Blk} (h : j ≠ id) : (H.set id B).blk j = H.blk j := by simp [Heap.set, h]
theorem set_next (H : Heap) (id : Nat) (B : Blk) : (H.set id B).next = H.next := rfl

theorem Grow.push {H H1 : Heap} (h : Grow H H1) (B : Blk) : Grow H (H1.push B) := h.trans ⟨Nat.le_succ _, fun id hi => push_old hi⟩
theorem Grow.set {H H1 : Heap} (h : Grow H H1) {id : Nat} (hi : H.next ≤ id) (B : Blk) : Grow H (H1.set id B) :=
  ⟨h.le, fun j hj => by rw [set_ne (by omega)]; exact h.old j hj⟩

/-- One cell, or a row of cells, is written. -/
theorem ef_stc {H : Heap} {id o n : Nat} {cs : List V} {es : Nat} {v : V} (hb : H.blk id = .cells es false cs) (hn : v.cells.length = n) (hc : v.cells.all V.isCell = true) (ho : o + v.cells.length ≤ cs.length) :
    (Kind.st n).ef H [.ptr (some (id, o)), v] = some (V.undef, H.set id (.cells es false (wr cs o v.cells))) := by
  simp only [Kind.ef, xSt, Heap.write, hb]
  rw [if_pos ⟨hn, hc⟩, if_pos ho]
  rfl

section
variable {P : Program} {R : Env → Heap → Prop} {e : Env} {H : Heap} {pd : List Pnd} {rest : List It} {i : Nat} {dst : Option Nat} {g : Option (Nat × Bool)} {ys : List Opd} {keep : List Nat}

theorem is_cons {k : Kind} (h : cwp P (⟨i, dst, g, k, ys, keep⟩ :: rest) e H pd R) : cwp P (⟨i, dst, g, k, ys, keep⟩ :: rest) e H pd R := h

theorem is_cond {Q : AEx → Env → Heap → Prop} {c : Opd} {a b : AC} (h : acwp P (.cond c a b) Q e H) : acwp P (.cond c a b) Q e H := h

/-- The next step of an iteration over nothing. -/
theorem s_nxt0 {it m since clock c2 : Nat} (hw : wantE e g = some true) (hv : evs e ys = some [.ptr (some (it, 0))]) (hi : H.blk it = .iter m since [] clock) (hm : H.blk m = .map [] c2)
    (h : cwp P rest (putE e dst (.tuple [.bool false])) H [] R) : cwp P (⟨i, dst, g, .nxt, ys, []⟩ :: rest) e H pd R := by
  unfold cwp
  have ha : Kind.nxt.acts = true := rfl
  simp only [hw, hv, ha, if_true]
  simp only [ActT, nextV, hi, hm]
  refine ⟨.inl (by simp), fun _ => ⟨?_, ?_⟩, fun e he => by simp at he⟩
  · rw [keep_nil]; simp
  · rw [keep_nil]; exact h
end
end Go.Cn
