/- How the model's loads, stores and tables run at worlds that an abstract heap stands for. -/
import Derived.Test.YtlnpgjfdlefmoaaGreatDoorCnComp
import Derived.Laws.Sem
import Derived.Laws.Cells
import Derived.ChangeKeysEq
namespace Go.Cn
set_option linter.unusedVariables false
set_option linter.unusedSimpArgs false

theorem add_at (b o i : Nat) : (⟨b, o, none⟩ : Addr).add i = ⟨b, o + i, none⟩ := by
  unfold Addr.add
  split
  · rename_i h; subst h; rfl
  · rfl

theorem isCell_rel {ρ : Ren} {v : V} {v' : Value} (h : VRel ρ v v') (hc : v.isCell = true) : v'.oneCell' = true := by
  cases h <;> first | rfl | (simp [V.isCell] at hc)

theorem cells_rel {ρ : Ren} {v : V} {v' : Value} (h : VRel ρ v v') (hc : ∀ x ∈ v.cells, x.isCell = true) : VRels ρ v.cells v'.cells := by
  cases h with
  | agg hc hn h => exact ⟨hn, h⟩
  | tuple hn h => simp [V.cells, V.isCell] at hc
  | _ =>
    refine ⟨rfl, fun i x x' hx hx' => ?_⟩
    cases i with
    | zero => simp [V.cells, Value.cells] at hx hx'; subst hx; subst hx'; first | exact .bool _ | exact .int _ _ | exact .str ‹_› | exact .ptr ‹_› | exact .slice ‹_› | exact .mapNil | exact .map ‹_› | exact .mapDead _ ‹_› | exact .func ‹_› ‹_› | exact .nilFunc | exact .iface ‹_› | exact .nilIface
    | succ i => simp [V.cells] at hx

theorem agg_isCell {ρ : Ren} {cs : List V} {v' : Value} (h : VRel ρ (.agg cs) v') : ∀ x ∈ cs, x.isCell = true := by
  cases h; assumption

theorem cells_isCell {ρ : Ren} {v : V} {v' : Value} (h : VRel ρ v v') (hv : ∀ vs, v ≠ .tuple vs) : ∀ x ∈ v.cells, x.isCell = true := by
  cases h with
  | agg hc hn h => exact hc
  | tuple hn h => exact absurd rfl (hv _)
  | _ => intro x hx; simp [V.cells] at hx; subst hx; rfl

theorem VRels.of_cells {ρ : Ren} {cs : List V} {l : List Value} (hn : cs.length = l.length) (h : ∀ (i : Nat) (v : V) (v' : Value), cs[i]? = some v → l[i]? = some v' → VRel ρ v v') : VRels ρ cs l.toArray :=
  ⟨by simp [hn], fun i v v' a b => h i v v' a (by simpa using b)⟩

section
variable {P : Program} {ρ : Ren} {H : Heap} {w : World}

theorem CellsAt.cell {r : Bool} {b n es : Nat} {c : Array Value} (h : CellsAt r w b n es c) (k : Nat) : w.cell? ⟨b, k, none⟩ = c[k]? := by
  obtain ⟨T, lo, hi, hb, _⟩ := h
  simp [World.cell?, hb]

theorem CellsAt.frozen {b n es : Nat} {c : Array Value} (h : CellsAt false w b n es c) (k : Nat) (hk : k < n) : w.frozen? ⟨b, k, none⟩ = false := by
  obtain ⟨T, lo, hi, hb, hn, hf, _⟩ := h
  have hf := hf rfl
  simp only [World.frozen?, hb, Bool.and_eq_false_iff, decide_eq_false_iff_not]
  omega

/-- A run of cells that the abstract heap holds is loaded, in any world of this heap. -/
theorem run_row' {id b o n es off k : Nat} {r : Bool} (hr : Rel ρ H w) (hl : ρ id = .live r b o n es) {vs : List V} (h : H.row id off k = some vs) :
    ∃ c : Array Value, (∀ w1 : World, w1.heap = w.heap → (loadCells ⟨b, o + off, none⟩ k).run P w1 = .ok c w1) ∧ VRels ρ vs c ∧ (∀ v ∈ vs, v.isCell = true) ∧ vs.length = k := by
  have hB := hr.blk hl
  unfold Heap.row at h
  split at h
  case h_2 => cases h
  rename_i es' ro' cs hb
  rw [hb] at hB
  obtain ⟨rfl, rfl, hcell, c, hc, hle, hat⟩ := hB
  split at h
  case isFalse => cases h
  rename_i hlen
  cases h
  have hk : ((cs.drop off).take k).length = k := by simp; omega
  have hget : ∀ j, j < k → ∃ v v', ((cs.drop off).take k)[j]? = some v ∧ c[o + off + j]? = some v' ∧ VRel ρ v v' := by
    intro j hj
    have hj' : off + j < cs.length := by omega
    obtain ⟨v', h1, h2⟩ := hat (off + j) cs[off + j] (by simp [hj'])
    exact ⟨cs[off + j], v', by simp [List.getElem?_take, hj, hj'], by rw [Nat.add_assoc]; exact h1, h2⟩
  refine ⟨((List.range k).map fun j => c.getD (o + off + j) undef).toArray, ?_, ?_, ?_, hk⟩
  · intro w1 hw1
    refine run_loadCells w1 _ k (fun j => c.getD (o + off + j) undef) fun j hj => ?_
    obtain ⟨v, v', h1, h2, h3⟩ := hget j hj
    have hcell1 : w1.cell? ⟨b, o + off + j, none⟩ = w.cell? ⟨b, o + off + j, none⟩ := by simp only [World.cell?, hw1]
    rw [add_at, hcell1, hc.cell, h2]
    simp [Array.getD_eq_getD_getElem?, h2]
  · refine VRels.of_cells (by simp; omega) fun j v v' hv hv' => ?_
    have hj : j < k := by
      rcases Nat.lt_or_ge j k with h | h
      · exact h
      · simp [List.getElem?_eq_none (show ((List.range k).map _).length ≤ j by simpa using h)] at hv'
    obtain ⟨x, x', h1, h2, h3⟩ := hget j hj
    rw [h1] at hv; cases hv
    simp [hj] at hv'
    subst hv'
    simpa [Array.getD_eq_getD_getElem?, h2] using h3
  · intro v hv
    exact hcell v (List.mem_of_mem_drop (List.mem_of_mem_take hv))

/-- A run of cells that the abstract heap holds is loaded. -/
theorem run_row {id b o n es off k : Nat} {r : Bool} (hr : Rel ρ H w) (hl : ρ id = .live r b o n es) {vs : List V} (h : H.row id off k = some vs) :
    ∃ c : Array Value, (loadCells ⟨b, o + off, none⟩ k).run P w = .ok c w ∧ VRels ρ vs c ∧ (∀ v ∈ vs, v.isCell = true) ∧ vs.length = k := by
  obtain ⟨c, h1, h2⟩ := run_row' (P := P) hr hl h
  exact ⟨c, h1 w rfl, h2⟩

/-- One cell is loaded. -/
theorem run_cell {id b o n es off : Nat} {r : Bool} (hr : Rel ρ H w) (hl : ρ id = .live r b o n es) {es' : Nat} {ro' : Bool} {cs : List V} (hb : H.blk id = .cells es' ro' cs) {v : V} (h : cs[off]? = some v) :
    ∃ v', (load ⟨b, o + off, none⟩).run P w = .ok v' w ∧ VRel ρ v v' ∧ v.isCell = true := by
  have hB := hr.blk hl
  rw [hb] at hB
  obtain ⟨_, _, hcell, c, hc, hle, hat⟩ := hB
  obtain ⟨v', h1, h2⟩ := hat off v h
  refine ⟨v', ?_, h2, hcell v (List.mem_of_getElem? h)⟩
  rw [run_load, hc.cell, h1]

theorem run_isAgg {t : TypeId} {g : Bool} (h : aggT P t = some g) : (isAgg t).run P w = .ok g w := by
  unfold aggT at h
  unfold isAgg
  simp only [Sem.run_bind]
  split at h
  · cases h; rename_i h; simp [run_underlying h]
  · cases h; rename_i h; simp [run_underlying h]
  · cases h
    rename_i d h1 h2 h
    rw [run_underlying h]
    simp only [Result.andThen_ok]
    cases d <;> first | rfl | exact (h1 _ rfl).elim | exact (h2 _ _ rfl).elim
  · cases h

theorem run_szT {t : TypeId} {n : Nat} (h : szT P t = some n) : (sizeOf t).run P w = .ok n w := by
  unfold szT at h
  cases hi : P.info? t with
  | none => simp [hi] at h
  | some i => simp [hi] at h; subst h; simp [run_sizeOf w hi, Program.cellsOf, hi]

theorem run_info {t : TypeId} {i : TypeInfo} (h : P.info? t = some i) : (typeInfo t).run P w = .ok i w := run_typeInfo w h

theorem run_byT {t : TypeId} {n : Nat} (h : byT P t = some n) : ∃ i, P.info? t = some i ∧ i.bytes = n := by
  unfold byT at h
  cases hi : P.info? t with
  | none => simp [hi] at h
  | some i => simp [hi] at h; exact ⟨i, rfl, h⟩


/-! ### Constants and operands -/
theorem cvl_rels {f : Value → Option V} (hf : ∀ v x, f v = some x → VRel ρ x v) : ∀ (l : List Value) (xs : List V), cvl f l = some xs → xs.length = l.length ∧ ∀ (i : Nat) (x : V) (v : Value), xs[i]? = some x → l[i]? = some v → VRel ρ x v
  | [], xs, h => by simp [cvl] at h; subst h; exact ⟨rfl, fun i x v h => by simp at h⟩
  | v :: vs, xs, h => by
    unfold cvl at h
    split at h
    case h_2 => cases h
    rename_i x ys hx hys
    cases h
    obtain ⟨hn, hi⟩ := cvl_rels hf vs ys hys
    refine ⟨by simp [hn], fun i y u hy hu => ?_⟩
    cases i with
    | zero => simp at hy hu; subst hy; subst hu; exact hf _ _ hx
    | succ i => exact hi i y u (by simpa using hy) (by simpa using hu)

theorem cv0_rel {v : Value} {x : V} (h : cv0 v = some x) : VRel ρ x v ∧ x.isCell = true := by
  unfold cv0 at h
  split at h <;> first | (cases h; done) | (cases h; refine ⟨?_, rfl⟩; first | exact .bool _ | exact .int _ _ | exact .str rfl | exact .ptr .nil | exact .slice .nil | exact .mapNil | exact .nilFunc | exact .nilIface)

theorem cvl_cells : ∀ (l : List Value) (xs : List V), cvl cv0 l = some xs → ∀ x ∈ xs, x.isCell = true
  | [], xs, h => by simp [cvl] at h; subst h; simp
  | v :: vs, xs, h => by
    unfold cvl at h
    split at h
    case h_2 => cases h
    rename_i x ys hx hys
    cases h
    intro y hy
    rcases List.mem_cons.1 hy with rfl | hy
    · exact (cv0_rel (ρ := fun _ => .out) hx).2
    · exact cvl_cells vs ys hys y hy

theorem cv_rel {v : Value} {x : V} (h : cv v = some x) : VRel ρ x v := by
  unfold cv at h
  split at h
  · rename_i cs
    cases hc : cvl cv0 cs.toList with
    | none => simp [hc] at h
    | some xs =>
      simp [hc] at h
      subst h
      obtain ⟨hn, hi⟩ := cvl_rels (ρ := ρ) (fun v x h => (cv0_rel h).1) _ _ hc
      exact .agg (cvl_cells _ _ hc) (by simpa using hn) fun i a b ha hb => hi i a b ha (by simpa using hb)
  · exact (cv0_rel h).1

theorem cv_nottuple {v : Value} {x : V} (h : cv v = some x) : ∀ vs, x ≠ .tuple vs := by
  intro vs e
  subst e
  have := cv_rel (ρ := fun _ => .out) h
  unfold cv at h
  split at h
  · rename_i cs
    cases hc : cvl cv0 cs.toList <;> simp [hc] at h
  · exact absurd (cv0_rel (ρ := fun _ => .out) h).2 (by simp [V.isCell])

theorem zeroT_rel {t : TypeId} {z : List V} (h : zeroT P t = some z) : ∃ v, (∀ w : World, (zeroValue t).run P w = .ok v w) ∧ VRels ρ z v.cells ∧ (∀ x ∈ z, x.isCell = true) := by
  unfold zeroT at h
  cases hi : P.info? t with
  | none => simp [hi] at h
  | some i =>
    cases hz : i.zero with
    | none => simp [hi, hz] at h
    | some v =>
      simp only [hi, Option.bind_some, hz] at h
      cases hc : cv v with
      | none => simp [hc] at h
      | some x =>
        simp [hc] at h
        subst h
        have hx := cv_rel (ρ := ρ) hc
        have hcell := cells_isCell hx (cv_nottuple hc)
        exact ⟨v, fun w => by simp [zeroValue, run_info hi, hz], cells_rel hx hcell, hcell⟩

theorem zeroV_rel {t : TypeId} {z : V} (h : zeroV P t = some z) : ∃ v, (∀ w : World, (zeroValue t).run P w = .ok v w) ∧ VRel ρ z v := by
  unfold zeroV at h
  cases hi : P.info? t with
  | none => simp [hi] at h
  | some i =>
    cases hz : i.zero with
    | none => simp [hi, hz] at h
    | some v =>
      simp only [hi, Option.bind_some, hz] at h
      exact ⟨v, fun w => by simp [zeroValue, run_info hi, hz], cv_rel h⟩

end

/-- Two lists, one by one. -/
inductive L2 {α β : Type} (R : α → β → Prop) : List α → List β → Prop where
  | nil : L2 R [] []
  | cons {x : α} {y : β} {xs : List α} {ys : List β} (h : R x y) (t : L2 R xs ys) : L2 R (x :: xs) (y :: ys)

/-- The slots stand for the model's. -/
structure ERel (ρ : Ren) (e : Env) (a : Act) : Prop where
  lk : ∀ t v, lk e t = some v → VRel ρ v (a.tmps.getD t undef)

theorem opd_rel {ρ : Ren} {e : Env} {a : Act} (he : ERel ρ e a) {x : Operand} {y : Opd} (h : opd x = some y) {v : V} (hv : ev e y = some v) : VRel ρ v (a.eval x) := by
  cases x with
  | tmp t => simp [opd] at h; subst h; exact he.lk t v hv
  | const c =>
    simp only [opd] at h
    cases hc : cv c with
    | none => simp [hc] at h
    | some z => simp [hc] at h; subst h; simp [ev] at hv; subst hv; exact cv_rel hc
  | global g => simp [opd] at h
  | func f => simp [opd] at h; subst h; simp [ev] at hv; subst hv; exact .func rfl fun i v v' h => by simp at h

theorem opds_rel {ρ : Ren} {e : Env} {a : Act} (he : ERel ρ e a) : ∀ {l : List Operand} {ys : List Opd}, opds l = some ys → ∀ {vs : List V}, evs e ys = some vs → L2 (fun v x => VRel ρ v (a.eval x)) vs l
  | [], ys, h, vs, hv => by simp [opds] at h; subst h; simp [evs] at hv; subst hv; exact .nil
  | x :: xs, ys, h, vs, hv => by
    unfold opds at h
    split at h
    case h_2 => cases h
    rename_i y zs hy hzs
    cases h
    unfold evs at hv
    split at hv
    case h_2 => cases hv
    rename_i u us hu hus
    cases hv
    exact .cons (opd_rel he hy hu) (opds_rel he hzs hus)

theorem mono_some {k k' : Kind} {l : List Operand} {ys : List Opd} (h : mono k l = some (k', ys)) : k = k' ∧ opds l = some ys := by
  unfold mono at h
  cases ho : opds l with
  | none => simp [ho] at h
  | some zs => simp [ho] at h; exact ⟨h.1, by rw [h.2]⟩

end Go.Cn

/- The operations that do not act: what the abstract machine makes of them stands for what the model's own run makes. -/
namespace Go.Cn
set_option linter.unusedVariables false
set_option linter.unusedSimpArgs false

def Ren.upd (ρ : Ren) (id : Nat) (s : St) : Ren := fun j => if j = id then s else ρ j

theorem Ren.upd_keeps {ρ : Ren} {id : Nat} {s : St} (h : ρ id = .out) : Keeps ρ (ρ.upd id s) := by
  intro j hj
  by_cases e : j = id
  · subst e; exact absurd h hj
  · exact .inl (by simp [Ren.upd, e])

/-- The run of an operation that does not act comes to what the abstract machine says. -/
def NeOk (P : Program) (ρ : Ren) (w : World) (r : Result Next) : Eff → Prop
  | .val v => ∃ v', r = .ok (.value v') w ∧ VRel ρ v v'
  | .new B mk => ∃ v' O w', r = .ok (.value v') w' ∧ w'.heap = w.heap.push O ∧ w'.os = w.os ∧ w'.output = w.output ∧
      ∃ n es, ∀ id, ρ id = .out → VRel (ρ.upd id (.live false w.heap.size 0 n es)) (mk id) v' ∧ BlkRel (ρ.upd id (.live false w.heap.size 0 n es)) w' w.heap.size 0 n es false B

theorem L2.nil_inv {α β : Type} {R : α → β → Prop} {l : List α} (h : L2 R l []) : l = [] := by cases h; rfl
theorem L2.cons_inv {α β : Type} {R : α → β → Prop} {l : List α} {y : β} {ys : List β} (h : L2 R l (y :: ys)) : ∃ x xs, l = x :: xs ∧ R x y ∧ L2 R xs ys := by
  cases h with | cons a b => exact ⟨_, _, rfl, a, b⟩
theorem L2.one {α β : Type} {R : α → β → Prop} {l : List α} {y : β} (h : L2 R l [y]) : ∃ x, l = [x] ∧ R x y := by
  obtain ⟨x, xs, rfl, h1, h2⟩ := h.cons_inv
  obtain rfl := h2.nil_inv
  exact ⟨x, rfl, h1⟩
theorem L2.two {α β : Type} {R : α → β → Prop} {l : List α} {y z : β} (h : L2 R l [y, z]) : ∃ x u, l = [x, u] ∧ R x y ∧ R u z := by
  obtain ⟨x, xs, rfl, h1, h2⟩ := h.cons_inv
  obtain ⟨u, rfl, h3⟩ := h2.one
  exact ⟨x, u, rfl, h1, h3⟩
theorem L2.three {α β : Type} {R : α → β → Prop} {l : List α} {y z t : β} (h : L2 R l [y, z, t]) : ∃ x u v, l = [x, u, v] ∧ R x y ∧ R u z ∧ R v t := by
  obtain ⟨x, xs, rfl, h1, h2⟩ := h.cons_inv
  obtain ⟨u, v, rfl, h3, h4⟩ := h2.two
  exact ⟨x, u, v, rfl, h1, h3, h4⟩

section inversions
variable {ρ : Ren} {x : Value}
theorem VRel.bool_inv {b : Bool} (h : VRel ρ (.bool b) x) : x = .bool b := by cases h; rfl
theorem VRel.int_inv {k : IntKind} {n : Int} (h : VRel ρ (.int k n) x) : x = .int k n := by cases h; rfl
theorem VRel.str_inv {s : List UInt8} (h : VRel ρ (.str s) x) : ∃ t, x = .string t ∧ t.data.toList = s := by cases h; exact ⟨_, rfl, ‹_›⟩
theorem VRel.ptr_inv {p : Option (Nat × Nat)} (h : VRel ρ (.ptr p) x) : ∃ a, x = .pointer a ∧ PRel ρ p a := by cases h; exact ⟨_, rfl, ‹_›⟩
theorem VRel.slice_inv {p : Option (Nat × Nat)} {len es : Nat} {full : Bool} (h : VRel ρ (.slice p len full es) x) : ∃ a cap, x = .slice a len cap ∧ SRel ρ p len full es a cap := by cases h; exact ⟨_, _, rfl, ‹_›⟩
theorem VRel.agg_inv {cs : List V} (h : VRel ρ (.agg cs) x) : ∃ cs', x = .agg cs' ∧ VRels ρ cs cs' ∧ ∀ v ∈ cs, v.isCell = true := by cases h; exact ⟨_, rfl, ⟨‹_›, ‹_›⟩, ‹_›⟩
theorem VRel.tuple_inv {cs : List V} (h : VRel ρ (.tuple cs) x) : ∃ cs', x = .tuple cs' ∧ VRels ρ cs cs' := by cases h; exact ⟨_, rfl, ⟨‹_›, ‹_›⟩⟩
theorem VRel.iface_inv {t : TypeId} {v : V} (h : VRel ρ (.iface t v) x) : ∃ v', x = .iface t v' ∧ VRel ρ v v' := by cases h; exact ⟨_, rfl, ‹_›⟩
theorem PRel.some_inv {i o : Nat} {a : Option Addr} (h : PRel ρ (some (i, o)) a) : ∃ b, a = some b ∧ ∀ j, PRel ρ (some (i, o + j)) (some (b.add j)) := by
  cases h with
  | dead a h => exact ⟨a, rfl, fun j => .dead _ h⟩
  | live h => exact ⟨_, rfl, fun j => by rw [add_at, Nat.add_assoc]; exact .live h⟩
end inversions

section
variable {P : Program} {ρ : Ren} {H : Heap} {w : World} {o : Oper} {a : Act} {e : Env}

theorem ne_mov {x : Operand} (hop : o.op = .move x ∨ o.op = .assign x) {vs : List V} {eff : Eff} (hl : L2 (fun v x => VRel ρ v (a.eval x)) vs [x]) (hn : Kind.ne H .mov vs = some eff) :
    NeOk P ρ w ((execOp a.eval o).run P w) eff := by
  obtain ⟨v, rfl, hv⟩ := hl.one
  simp [Kind.ne, kMov] at hn
  subst hn
  rcases hop with h | h <;> exact ⟨_, by simp [execOp, h], hv⟩

theorem ne_pick {c x y : Operand} (hop : o.op = .pick c x y) {vs : List V} {eff : Eff} (hl : L2 (fun v x => VRel ρ v (a.eval x)) vs [c, x, y]) (hn : Kind.ne H .pick vs = some eff) :
    NeOk P ρ w ((execOp a.eval o).run P w) eff := by
  obtain ⟨v1, v2, v3, rfl, h1, h2, h3⟩ := hl.three
  simp only [Kind.ne, kPick] at hn
  split at hn
  case h_2 => cases hn
  rename_i b x' y' heq
  simp at heq; obtain ⟨rfl, rfl, rfl⟩ := heq
  cases hn
  have h1' := h1.bool_inv
  refine ⟨if b then a.eval x else a.eval y, by simp [execOp, hop, asBool, h1'], ?_⟩
  cases b
  · exact h3
  · exact h2

theorem ne_nilc {x : Operand} (hop : o.op = .nilCheck x) {vs : List V} {eff : Eff} (hl : L2 (fun v x => VRel ρ v (a.eval x)) vs [x]) (hn : Kind.ne H .nilc vs = some eff) :
    NeOk P ρ w ((execOp a.eval o).run P w) eff := by
  obtain ⟨v, rfl, hv⟩ := hl.one
  simp only [Kind.ne, kNilc] at hn
  split at hn
  case h_3 => cases hn
  · rename_i p heq
    simp at heq; subst heq; cases hn
    obtain ⟨ad, h1, h2⟩ := hv.ptr_inv
    obtain ⟨i, j⟩ := p
    obtain ⟨b, rfl, _⟩ := h2.some_inv
    exact ⟨.pointer (some b), by simp [execOp, hop, h1], .ptr h2⟩
  · rename_i f cs heq
    simp at heq; subst heq; cases hn
    generalize hx : a.eval x = y at hv
    cases hv with
    | func h1 h2 => exact ⟨_, by simp [execOp, hop, hx], .func h1 h2⟩

theorem ne_fa {s : TypeId} {f : Nat} {x : Operand} {fs : Array Field} {fd : Field} {n : Nat} (hop : o.op = .fieldAddr s x f) (hs : P.underlying s = some (.struct fs)) (hf : fs[f]? = some fd) (hz : szT P fd.type = some n) (h0 : n ≠ 0)
    {vs : List V} {eff : Eff} (hl : L2 (fun v x => VRel ρ v (a.eval x)) vs [x]) (hn : Kind.ne H (.fa fd.offset) vs = some eff) :
    NeOk P ρ w ((execOp a.eval o).run P w) eff := by
  obtain ⟨v, rfl, hv⟩ := hl.one
  simp only [Kind.ne, kFa] at hn
  split at hn
  case h_2 => cases hn
  rename_i i j heq
  simp at heq; subst heq; cases hn
  obtain ⟨ad, h1, h2⟩ := hv.ptr_inv
  obtain ⟨b, rfl, h3⟩ := h2.some_inv
  exact ⟨.pointer (some (b.add fd.offset)), by simp [execOp, hop, Instr.fieldAt, run_underlying hs, hf, h1, Instr.sureAddr, fieldPlace, run_szT hz, h0], .ptr (h3 _)⟩

theorem ne_iaA {t el : TypeId} {x i : Operand} {len s : Nat} (hop : o.op = .indexAddr t x i) (ht : P.underlying t = some (.array len el)) (hz : szT P el = some s)
    {vs : List V} {eff : Eff} (hl : L2 (fun v x => VRel ρ v (a.eval x)) vs [x, i]) (hn : Kind.ne H (.iaA len s) vs = some eff) :
    NeOk P ρ w ((execOp a.eval o).run P w) eff := by
  obtain ⟨v, u, rfl, hv, hu⟩ := hl.two
  simp only [Kind.ne, kIaA] at hn
  split at hn
  case h_2 => cases hn
  rename_i i1 j1 kk n heq
  simp at heq; obtain ⟨rfl, rfl⟩ := heq
  split at hn
  case isFalse => cases hn
  rename_i hb
  cases hn
  obtain ⟨ad, h1, h2⟩ := hv.ptr_inv
  obtain ⟨b, rfl, h3⟩ := h2.some_inv
  exact ⟨.pointer (some (b.add (n.toNat * s))), by simp [execOp, hop, Instr.indexAt, hu.int_inv, asIntOf, run_underlying ht, h1, Instr.sureAddr, run_szT hz, hb.1, hb.2], .ptr (h3 _)⟩

theorem ne_iaS {t el : TypeId} {x i : Operand} {s : Nat} (hop : o.op = .indexAddr t x i) (ht : P.underlying t = some (.slice el)) (hz : szT P el = some s)
    {vs : List V} {eff : Eff} (hl : L2 (fun v x => VRel ρ v (a.eval x)) vs [x, i]) (hn : Kind.ne H (.iaS s) vs = some eff) :
    NeOk P ρ w ((execOp a.eval o).run P w) eff := by
  obtain ⟨v, u, rfl, hv, hu⟩ := hl.two
  simp only [Kind.ne, kIaS] at hn
  split at hn
  case h_2 => cases hn
  rename_i i1 j1 len full es0 kk n heq
  simp at heq; obtain ⟨rfl, rfl⟩ := heq
  split at hn
  case isFalse => cases hn
  rename_i hb
  cases hn
  obtain ⟨ad, cap, h1, h2⟩ := hv.slice_inv
  cases h2 with
  | dead ad h _ _ => exact ⟨.pointer (some (ad.add (n.toNat * s))), by simp [execOp, hop, Instr.indexAt, hu.int_inv, asIntOf, run_underlying ht, h1, run_szT hz, hb.1, hb.2], .ptr (.dead _ h)⟩
  | live h hlen hfull hoff hroom =>
    have hne : len ≠ 0 := by rintro rfl; have := hb.2; omega
    have e := hoff hne
    subst e
    rename_i ro1 b1 o1 n1
    exact ⟨.pointer (some ((⟨b1, o1 + j1, none⟩ : Addr).add (n.toNat * s))), by simp [execOp, hop, Instr.indexAt, hu.int_inv, asIntOf, run_underlying ht, h1, run_szT hz, hb.1, hb.2], .ptr (by rw [add_at, Nat.add_assoc]; exact .live h)⟩

theorem run_part {t : TypeId} {n : Nat} {g : Bool} (hz : szT P t = some n) (hg : aggT P t = some g) {cs : List V} {cs' : Array Value} (hr : VRels ρ cs cs') (hc : ∀ v ∈ cs, v.isCell = true) {off : Nat} {v : V}
    (hv : (if g then some (V.agg ((cs.drop off).take n)) else cs[off]?) = some v) (w : World) : ∃ v', (part t cs' off).run P w = .ok v' w ∧ VRel ρ v v' := by
  unfold part
  simp only [Sem.run_bind, run_isAgg hg, Result.andThen_ok]
  cases g with
  | false =>
    simp at hv
    obtain ⟨v', h1, h2⟩ := hr.get hv
    exact ⟨v', by simp [h1], h2⟩
  | true =>
    simp at hv
    subst hv
    refine ⟨.agg (cs'.extract off (off + n)), by simp [run_szT hz], .ofAgg ⟨by simp [hr.1]; omega, fun i v v' h1 h2 => ?_⟩ fun v h => hc v (List.mem_of_mem_drop (List.mem_of_mem_take h))⟩
    have hi : i < n := by
      rcases Nat.lt_or_ge i n with h | h
      · exact h
      · rw [List.getElem?_eq_none (by simp; omega)] at h1; cases h1
    rw [List.getElem?_take_of_lt hi, List.getElem?_drop] at h1
    refine hr.2 (off + i) v v' h1 ?_
    have hlt : i < (cs'.extract off (off + n)).size := by
      rcases Nat.lt_or_ge i (cs'.extract off (off + n)).size with h | h
      · exact h
      · rw [Array.getElem?_eq_none h] at h2; cases h2
    rw [Array.getElem?_eq_getElem hlt, Array.getElem_extract] at h2
    rw [← h2, Array.getElem?_eq_getElem]

theorem ne_ixA {t el : TypeId} {x i : Operand} {len s : Nat} {g : Bool} (hop : o.op = .index t x i) (ht : P.underlying t = some (.array len el)) (hz : szT P el = some s) (hg : aggT P el = some g)
    {vs : List V} {eff : Eff} (hl : L2 (fun v x => VRel ρ v (a.eval x)) vs [x, i]) (hn : Kind.ne H (.ixA len s g) vs = some eff) :
    NeOk P ρ w ((execOp a.eval o).run P w) eff := by
  obtain ⟨v, u, rfl, hv, hu⟩ := hl.two
  simp only [Kind.ne, kIxA] at hn
  split at hn
  case h_2 => cases hn
  rename_i cs kk n heq
  simp at heq; obtain ⟨rfl, rfl⟩ := heq
  split at hn
  case isFalse => cases hn
  rename_i hb
  obtain ⟨cs', h1, h2, h3⟩ := hv.agg_inv
  obtain ⟨r, hr, rfl⟩ : ∃ r, (if g then some (V.agg ((cs.drop (n.toNat * s)).take s)) else cs[n.toNat * s]?) = some r ∧ eff = .val r := by
    cases g with
    | true => simp at hn; exact ⟨_, rfl, hn.symm⟩
    | false =>
      simp only [Bool.false_eq_true, if_false] at hn ⊢
      cases hq : cs[n.toNat * s]? with
      | none => simp [hq] at hn
      | some r => simp [hq] at hn; exact ⟨r, rfl, hn.symm⟩
  obtain ⟨v', h4, h5⟩ := run_part hz hg h2 h3 hr w
  exact ⟨v', by simp [execOp, hop, Instr.index, hu.int_inv, asIntOf, run_underlying ht, h1, run_szT hz, hb.1, hb.2, h4], h5⟩

theorem ne_ixStr {t : TypeId} {x i : Operand} (hop : o.op = .index t x i) (ht : P.underlying t = some .string)
    {vs : List V} {eff : Eff} (hl : L2 (fun v x => VRel ρ v (a.eval x)) vs [x, i]) (hn : Kind.ne H .ixStr vs = some eff) :
    NeOk P ρ w ((execOp a.eval o).run P w) eff := by
  obtain ⟨v, u, rfl, hv, hu⟩ := hl.two
  simp only [Kind.ne, kIxStr] at hn
  split at hn
  case h_2 => cases hn
  rename_i s kk n heq
  simp at heq; obtain ⟨rfl, rfl⟩ := heq
  split at hn
  case isFalse => cases hn
  rename_i hb
  obtain ⟨t', h1, rfl⟩ := hv.str_inv
  cases hq : t'.data.toList[n.toNat]? with
  | none => simp [hq] at hn
  | some b =>
    simp [hq] at hn
    subst hn
    have hq' : t'[n.toNat]? = some b := by
      have hlt : n.toNat < t'.data.toList.length := by
        rcases Nat.lt_or_ge n.toNat t'.data.toList.length with h | h
        · exact h
        · rw [List.getElem?_eq_none h] at hq; cases hq
      have hlt' : n.toNat < t'.size := by rw [Array.length_toList] at hlt; exact hlt
      rw [List.getElem?_eq_getElem hlt] at hq
      rw [getElem?_pos t' n.toNat hlt']
      rw [← hq, ByteArray.getElem_eq_getElem_data, Array.getElem_toList]
    have hi := hu.int_inv
    refine ⟨.int .u8 b.toNat, ?_, .int _ _⟩
    simp only [execOp, hop, Instr.index, Sem.run_bind, hi, asIntOf, Sem.run_pure, Result.andThen_ok, run_underlying ht, h1]
    rw [if_pos hb, hq']
    rfl

theorem ne_fld {t : TypeId} {f : Nat} {x : Operand} {fs : Array Field} {fd : Field} {n : Nat} {g : Bool} (hop : o.op = .field t x f) (hs : P.underlying t = some (.struct fs)) (hf : fs[f]? = some fd) (hz : szT P fd.type = some n) (hg : aggT P fd.type = some g)
    {vs : List V} {eff : Eff} (hl : L2 (fun v x => VRel ρ v (a.eval x)) vs [x]) (hn : Kind.ne H (.fld fd.offset n g) vs = some eff) :
    NeOk P ρ w ((execOp a.eval o).run P w) eff := by
  obtain ⟨v, rfl, hv⟩ := hl.one
  simp only [Kind.ne, kFld] at hn
  split at hn
  case h_2 => cases hn
  rename_i cs heq
  simp at heq; subst heq
  obtain ⟨cs', h1, h2, h3⟩ := hv.agg_inv
  obtain ⟨r, hr, rfl⟩ : ∃ r, (if g then some (V.agg ((cs.drop fd.offset).take n)) else cs[fd.offset]?) = some r ∧ eff = .val r := by
    cases g with
    | true => simp at hn; exact ⟨_, rfl, hn.symm⟩
    | false =>
      simp only [Bool.false_eq_true, if_false] at hn ⊢
      cases hq : cs[fd.offset]? with
      | none => simp [hq] at hn
      | some r => simp [hq] at hn; exact ⟨r, rfl, hn.symm⟩
  obtain ⟨v', h4, h5⟩ := run_part hz hg h2 h3 hr w
  exact ⟨v', by simp [execOp, hop, Instr.field, run_underlying hs, hf, h1, asAgg, h4], h5⟩

end
end Go.Cn
