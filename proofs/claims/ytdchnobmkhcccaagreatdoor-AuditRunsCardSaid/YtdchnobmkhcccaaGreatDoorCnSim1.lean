/- How the model's loads, stores and tables run at worlds that an abstract heap stands for. -/
import Derived.Test.YtdchnobmkhcccaaGreatDoorCnComp
import Derived.Laws.Sem
import Derived.Laws.Cells
import Derived.ChangeKeysEq
namespace Go.Cn
set_option linter.unusedVariables false
set_option linter.unusedSimpArgs false

theorem add_at (b o i : Nat) : (⟨b, o, none⟩ : Addr).add i = ⟨b, o + i, none⟩ := by
  unfold Addr.add
  split
  · rename_i h; subst h; rfl
  · rfl

theorem isCell_rel {ρ : Ren} {v : V} {v' : Value} (h : VRel ρ v v') (hc : v.isCell = true) : v'.oneCell' = true := by
  cases h <;> first | rfl | (simp [V.isCell] at hc)

theorem cells_rel {ρ : Ren} {v : V} {v' : Value} (h : VRel ρ v v') (hc : ∀ x ∈ v.cells, x.isCell = true) : VRels ρ v.cells v'.cells := by
  cases h with
  | agg hc hn h => exact ⟨hn, h⟩
  | tuple hn h => simp [V.cells, V.isCell] at hc
  | _ =>
    refine ⟨rfl, fun i x x' hx hx' => ?_⟩
    cases i with
    | zero => simp [V.cells, Value.cells] at hx hx'; subst hx; subst hx'; first | exact .bool _ | exact .int _ _ | exact .str ‹_› | exact .ptr ‹_› | exact .slice ‹_› | exact .mapNil | exact .map ‹_› | exact .mapDead _ ‹_› | exact .func ‹_› ‹_› | exact .nilFunc | exact .iface ‹_› | exact .nilIface
    | succ i => simp [V.cells] at hx

theorem agg_isCell {ρ : Ren} {cs : List V} {v' : Value} (h : VRel ρ (.agg cs) v') : ∀ x ∈ cs, x.isCell = true := by
  cases h; assumption

theorem cells_isCell {ρ : Ren} {v : V} {v' : Value} (h : VRel ρ v v') (hv : ∀ vs, v ≠ .tuple vs) : ∀ x ∈ v.cells, x.isCell = true := by
  cases h with
  | agg hc hn h => exact hc
  | tuple hn h => exact absurd rfl (hv _)
  | _ => intro x hx; simp [V.cells] at hx; subst hx; rfl

theorem VRels.of_cells {ρ : Ren} {cs : List V} {l : List Value} (hn : cs.length = l.length) (h : ∀ (i : Nat) (v : V) (v' : Value), cs[i]? = some v → l[i]? = some v' → VRel ρ v v') : VRels ρ cs l.toArray :=
  ⟨by simp [hn], fun i v v' a b => h i v v' a (by simpa using b)⟩

section
variable {P : Program} {ρ : Ren} {H : Heap} {w : World}

theorem CellsAt.cell {b n es : Nat} {c : Array Value} (h : CellsAt w b n es c) (k : Nat) : w.cell? ⟨b, k, none⟩ = c[k]? := by
  obtain ⟨T, lo, hi, hb, _⟩ := h
  simp [World.cell?, hb]

theorem CellsAt.frozen {b n es : Nat} {c : Array Value} (h : CellsAt w b n es c) (k : Nat) (hk : k < n) : w.frozen? ⟨b, k, none⟩ = false := by
  obtain ⟨T, lo, hi, hb, hn, hf, _⟩ := h
  simp only [World.frozen?, hb, Bool.and_eq_false_iff, decide_eq_false_iff_not]
  omega

/-- A run of cells that the abstract heap holds is loaded, in any world of this heap. -/
theorem run_row' {id b o n es off k : Nat} {r : Bool} (hr : Rel ρ H w) (hl : ρ id = .live r b o n es) {vs : List V} (h : H.row id off k = some vs) :
    ∃ c : Array Value, (∀ w1 : World, w1.heap = w.heap → (loadCells ⟨b, o + off, none⟩ k).run P w1 = .ok c w1) ∧ VRels ρ vs c ∧ (∀ v ∈ vs, v.isCell = true) ∧ vs.length = k := by
  have hB := hr.blk hl
  unfold Heap.row at h
  split at h
  case h_2 => cases h
  rename_i es' ro' cs hb
  rw [hb] at hB
  obtain ⟨rfl, rfl, hcell, c, hc, hle, hat⟩ := hB
  split at h
  case isFalse => cases h
  rename_i hlen
  cases h
  have hk : ((cs.drop off).take k).length = k := by simp; omega
  have hget : ∀ j, j < k → ∃ v v', ((cs.drop off).take k)[j]? = some v ∧ c[o + off + j]? = some v' ∧ VRel ρ v v' := by
    intro j hj
    have hj' : off + j < cs.length := by omega
    obtain ⟨v', h1, h2⟩ := hat (off + j) cs[off + j] (by simp [hj'])
    exact ⟨cs[off + j], v', by simp [List.getElem?_take, hj, hj'], by rw [Nat.add_assoc]; exact h1, h2⟩
  refine ⟨((List.range k).map fun j => c.getD (o + off + j) undef).toArray, ?_, ?_, ?_, hk⟩
  · intro w1 hw1
    refine run_loadCells w1 _ k (fun j => c.getD (o + off + j) undef) fun j hj => ?_
    obtain ⟨v, v', h1, h2, h3⟩ := hget j hj
    have hcell1 : w1.cell? ⟨b, o + off + j, none⟩ = w.cell? ⟨b, o + off + j, none⟩ := by simp only [World.cell?, hw1]
    rw [add_at, hcell1, hc.cell, h2]
    simp [Array.getD_eq_getD_getElem?, h2]
  · refine VRels.of_cells (by simp; omega) fun j v v' hv hv' => ?_
    have hj : j < k := by
      rcases Nat.lt_or_ge j k with h | h
      · exact h
      · simp [List.getElem?_eq_none (show ((List.range k).map _).length ≤ j by simpa using h)] at hv'
    obtain ⟨x, x', h1, h2, h3⟩ := hget j hj
    rw [h1] at hv; cases hv
    simp [hj] at hv'
    subst hv'
    simpa [Array.getD_eq_getD_getElem?, h2] using h3
  · intro v hv
    exact hcell v (List.mem_of_mem_drop (List.mem_of_mem_take hv))

/-- A run of cells that the abstract heap holds is loaded. -/
theorem run_row {id b o n es off k : Nat} {r : Bool} (hr : Rel ρ H w) (hl : ρ id = .live r b o n es) {vs : List V} (h : H.row id off k = some vs) :
    ∃ c : Array Value, (loadCells ⟨b, o + off, none⟩ k).run P w = .ok c w ∧ VRels ρ vs c ∧ (∀ v ∈ vs, v.isCell = true) ∧ vs.length = k := by
  obtain ⟨c, h1, h2⟩ := run_row' (P := P) hr hl h
  exact ⟨c, h1 w rfl, h2⟩

/-- One cell is loaded. -/
theorem run_cell {id b o n es off : Nat} {r : Bool} (hr : Rel ρ H w) (hl : ρ id = .live r b o n es) {es' : Nat} {ro' : Bool} {cs : List V} (hb : H.blk id = .cells es' ro' cs) {v : V} (h : cs[off]? = some v) :
    ∃ v', (load ⟨b, o + off, none⟩).run P w = .ok v' w ∧ VRel ρ v v' ∧ v.isCell = true := by
  have hB := hr.blk hl
  rw [hb] at hB
  obtain ⟨_, _, hcell, c, hc, hle, hat⟩ := hB
  obtain ⟨v', h1, h2⟩ := hat off v h
  refine ⟨v', ?_, h2, hcell v (List.mem_of_getElem? h)⟩
  rw [run_load, hc.cell, h1]

theorem run_isAgg {t : TypeId} {g : Bool} (h : aggT P t = some g) : (isAgg t).run P w = .ok g w := by
  unfold aggT at h
  unfold isAgg
  simp only [Sem.run_bind]
  split at h
  · cases h; rename_i h; simp [run_underlying h]
  · cases h; rename_i h; simp [run_underlying h]
  · cases h
    rename_i d h1 h2 h
    rw [run_underlying h]
    simp only [Result.andThen_ok]
    cases d <;> first | rfl | exact (h1 _ rfl).elim | exact (h2 _ _ rfl).elim
  · cases h

theorem run_szT {t : TypeId} {n : Nat} (h : szT P t = some n) : (sizeOf t).run P w = .ok n w := by
  unfold szT at h
  cases hi : P.info? t with
  | none => simp [hi] at h
  | some i => simp [hi] at h; subst h; simp [run_sizeOf w hi, Program.cellsOf, hi]

theorem run_info {t : TypeId} {i : TypeInfo} (h : P.info? t = some i) : (typeInfo t).run P w = .ok i w := run_typeInfo w h

theorem run_byT {t : TypeId} {n : Nat} (h : byT P t = some n) : ∃ i, P.info? t = some i ∧ i.bytes = n := by
  unfold byT at h
  cases hi : P.info? t with
  | none => simp [hi] at h
  | some i => simp [hi] at h; exact ⟨i, rfl, h⟩


/-! ### Constants and operands -/
theorem cvl_rels {f : Value → Option V} (hf : ∀ v x, f v = some x → VRel ρ x v) : ∀ (l : List Value) (xs : List V), cvl f l = some xs → xs.length = l.length ∧ ∀ (i : Nat) (x : V) (v : Value), xs[i]? = some x → l[i]? = some v → VRel ρ x v
  | [], xs, h => by simp [cvl] at h; subst h; exact ⟨rfl, fun i x v h => by simp at h⟩
  | v :: vs, xs, h => by
    unfold cvl at h
    split at h
    case h_2 => cases h
    rename_i x ys hx hys
    cases h
    obtain ⟨hn, hi⟩ := cvl_rels hf vs ys hys
    refine ⟨by simp [hn], fun i y u hy hu => ?_⟩
    cases i with
    | zero => simp at hy hu; subst hy; subst hu; exact hf _ _ hx
    | succ i => exact hi i y u (by simpa using hy) (by simpa using hu)

theorem cv0_rel {v : Value} {x : V} (h : cv0 v = some x) : VRel ρ x v ∧ x.isCell = true := by
  unfold cv0 at h
  split at h <;> first | (cases h; done) | (cases h; refine ⟨?_, rfl⟩; first | exact .bool _ | exact .int _ _ | exact .str rfl | exact .ptr .nil | exact .slice .nil | exact .mapNil | exact .nilFunc | exact .nilIface)

theorem cvl_cells : ∀ (l : List Value) (xs : List V), cvl cv0 l = some xs → ∀ x ∈ xs, x.isCell = true
  | [], xs, h => by simp [cvl] at h; subst h; simp
  | v :: vs, xs, h => by
    unfold cvl at h
    split at h
    case h_2 => cases h
    rename_i x ys hx hys
    cases h
    intro y hy
    rcases List.mem_cons.1 hy with rfl | hy
    · exact (cv0_rel (ρ := fun _ => .out) hx).2
    · exact cvl_cells vs ys hys y hy

theorem cv_rel {v : Value} {x : V} (h : cv v = some x) : VRel ρ x v := by
  unfold cv at h
  split at h
  · rename_i cs
    cases hc : cvl cv0 cs.toList with
    | none => simp [hc] at h
    | some xs =>
      simp [hc] at h
      subst h
      obtain ⟨hn, hi⟩ := cvl_rels (ρ := ρ) (fun v x h => (cv0_rel h).1) _ _ hc
      exact .agg (cvl_cells _ _ hc) (by simpa using hn) fun i a b ha hb => hi i a b ha (by simpa using hb)
  · exact (cv0_rel h).1

theorem cv_nottuple {v : Value} {x : V} (h : cv v = some x) : ∀ vs, x ≠ .tuple vs := by
  intro vs e
  subst e
  have := cv_rel (ρ := fun _ => .out) h
  unfold cv at h
  split at h
  · rename_i cs
    cases hc : cvl cv0 cs.toList <;> simp [hc] at h
  · exact absurd (cv0_rel (ρ := fun _ => .out) h).2 (by simp [V.isCell])

theorem zeroT_rel {t : TypeId} {z : List V} (h : zeroT P t = some z) : ∃ v, (∀ w : World, (zeroValue t).run P w = .ok v w) ∧ VRels ρ z v.cells ∧ (∀ x ∈ z, x.isCell = true) := by
  unfold zeroT at h
  cases hi : P.info? t with
  | none => simp [hi] at h
  | some i =>
    cases hz : i.zero with
    | none => simp [hi, hz] at h
    | some v =>
      simp only [hi, Option.bind_some, hz] at h
      cases hc : cv v with
      | none => simp [hc] at h
      | some x =>
        simp [hc] at h
        subst h
        have hx := cv_rel (ρ := ρ) hc
        have hcell := cells_isCell hx (cv_nottuple hc)
        exact ⟨v, fun w => by simp [zeroValue, run_info hi, hz], cells_rel hx hcell, hcell⟩

theorem zeroV_rel {t : TypeId} {z : V} (h : zeroV P t = some z) : ∃ v, (∀ w : World, (zeroValue t).run P w = .ok v w) ∧ VRel ρ z v := by
  unfold zeroV at h
  cases hi : P.info? t with
  | none => simp [hi] at h
  | some i =>
    cases hz : i.zero with
    | none => simp [hi, hz] at h
    | some v =>
      simp only [hi, Option.bind_some, hz] at h
      exact ⟨v, fun w => by simp [zeroValue, run_info hi, hz], cv_rel h⟩

end

/-- Two lists, one by one. -/
inductive L2 {α β : Type} (R : α → β → Prop) : List α → List β → Prop where
  | nil : L2 R [] []
  | cons {x : α} {y : β} {xs : List α} {ys : List β} (h : R x y) (t : L2 R xs ys) : L2 R (x :: xs) (y :: ys)

/-- The slots stand for the model's. -/
structure ERel (ρ : Ren) (e : Env) (a : Act) : Prop where
  lk : ∀ t v, lk e t = some v → VRel ρ v (a.tmps.getD t undef)

theorem opd_rel {ρ : Ren} {e : Env} {a : Act} (he : ERel ρ e a) {x : Operand} {y : Opd} (h : opd x = some y) {v : V} (hv : ev e y = some v) : VRel ρ v (a.eval x) := by
  cases x with
  | tmp t => simp [opd] at h; subst h; exact he.lk t v hv
  | const c =>
    simp only [opd] at h
    cases hc : cv c with
    | none => simp [hc] at h
    | some z => simp [hc] at h; subst h; simp [ev] at hv; subst hv; exact cv_rel hc
  | global g => simp [opd] at h
  | func f => simp [opd] at h; subst h; simp [ev] at hv; subst hv; exact .func rfl fun i v v' h => by simp at h

theorem opds_rel {ρ : Ren} {e : Env} {a : Act} (he : ERel ρ e a) : ∀ {l : List Operand} {ys : List Opd}, opds l = some ys → ∀ {vs : List V}, evs e ys = some vs → L2 (fun v x => VRel ρ v (a.eval x)) vs l
  | [], ys, h, vs, hv => by simp [opds] at h; subst h; simp [evs] at hv; subst hv; exact .nil
  | x :: xs, ys, h, vs, hv => by
    unfold opds at h
    split at h
    case h_2 => cases h
    rename_i y zs hy hzs
    cases h
    unfold evs at hv
    split at hv
    case h_2 => cases hv
    rename_i u us hu hus
    cases hv
    exact .cons (opd_rel he hy hu) (opds_rel he hzs hus)

theorem mono_some {k k' : Kind} {l : List Operand} {ys : List Opd} (h : mono k l = some (k', ys)) : k = k' ∧ opds l = some ys := by
  unfold mono at h
  cases ho : opds l with
  | none => simp [ho] at h
  | some zs => simp [ho] at h; exact ⟨h.1, by rw [h.2]⟩

end Go.Cn
