/- The operations that do not act: what the abstract machine makes of them stands for what the model's own run makes. -/
import Derived.Test.YtdchnobmkhcccaaGreatDoorCnSim1
namespace Go.Cn
set_option linter.unusedVariables false
set_option linter.unusedSimpArgs false

def Ren.upd (ρ : Ren) (id : Nat) (s : St) : Ren := fun j => if j = id then s else ρ j

theorem Ren.upd_keeps {ρ : Ren} {id : Nat} {s : St} (h : ρ id = .out) : Keeps ρ (ρ.upd id s) := by
  intro j hj
  by_cases e : j = id
  · subst e; exact absurd h hj
  · exact .inl (by simp [Ren.upd, e])

/-- The run of an operation that does not act comes to what the abstract machine says. -/
def NeOk (P : Program) (ρ : Ren) (w : World) (r : Result Next) : Eff → Prop
  | .val v => ∃ v', r = .ok (.value v') w ∧ VRel ρ v v'
  | .new B mk => ∃ v' O w', r = .ok (.value v') w' ∧ w'.heap = w.heap.push O ∧ w'.os = w.os ∧ w'.output = w.output ∧
      ∃ n es, ∀ id, ρ id = .out → VRel (ρ.upd id (.live false w.heap.size 0 n es)) (mk id) v' ∧ BlkRel (ρ.upd id (.live false w.heap.size 0 n es)) w' w.heap.size 0 n es false B

theorem L2.nil_inv {α β : Type} {R : α → β → Prop} {l : List α} (h : L2 R l []) : l = [] := by cases h; rfl
theorem L2.cons_inv {α β : Type} {R : α → β → Prop} {l : List α} {y : β} {ys : List β} (h : L2 R l (y :: ys)) : ∃ x xs, l = x :: xs ∧ R x y ∧ L2 R xs ys := by
  cases h with | cons a b => exact ⟨_, _, rfl, a, b⟩
theorem L2.one {α β : Type} {R : α → β → Prop} {l : List α} {y : β} (h : L2 R l [y]) : ∃ x, l = [x] ∧ R x y := by
  obtain ⟨x, xs, rfl, h1, h2⟩ := h.cons_inv
  obtain rfl := h2.nil_inv
  exact ⟨x, rfl, h1⟩
theorem L2.two {α β : Type} {R : α → β → Prop} {l : List α} {y z : β} (h : L2 R l [y, z]) : ∃ x u, l = [x, u] ∧ R x y ∧ R u z := by
  obtain ⟨x, xs, rfl, h1, h2⟩ := h.cons_inv
  obtain ⟨u, rfl, h3⟩ := h2.one
  exact ⟨x, u, rfl, h1, h3⟩
theorem L2.three {α β : Type} {R : α → β → Prop} {l : List α} {y z t : β} (h : L2 R l [y, z, t]) : ∃ x u v, l = [x, u, v] ∧ R x y ∧ R u z ∧ R v t := by
  obtain ⟨x, xs, rfl, h1, h2⟩ := h.cons_inv
  obtain ⟨u, v, rfl, h3, h4⟩ := h2.two
  exact ⟨x, u, v, rfl, h1, h3, h4⟩

section inversions
variable {ρ : Ren} {x : Value}
theorem VRel.bool_inv {b : Bool} (h : VRel ρ (.bool b) x) : x = .bool b := by cases h; rfl
theorem VRel.int_inv {k : IntKind} {n : Int} (h : VRel ρ (.int k n) x) : x = .int k n := by cases h; rfl
theorem VRel.str_inv {s : List UInt8} (h : VRel ρ (.str s) x) : ∃ t, x = .string t ∧ t.data.toList = s := by cases h; exact ⟨_, rfl, ‹_›⟩
theorem VRel.ptr_inv {p : Option (Nat × Nat)} (h : VRel ρ (.ptr p) x) : ∃ a, x = .pointer a ∧ PRel ρ p a := by cases h; exact ⟨_, rfl, ‹_›⟩
theorem VRel.slice_inv {p : Option (Nat × Nat)} {len es : Nat} {full : Bool} (h : VRel ρ (.slice p len full es) x) : ∃ a cap, x = .slice a len cap ∧ SRel ρ p len full es a cap := by cases h; exact ⟨_, _, rfl, ‹_›⟩
theorem VRel.agg_inv {cs : List V} (h : VRel ρ (.agg cs) x) : ∃ cs', x = .agg cs' ∧ VRels ρ cs cs' ∧ ∀ v ∈ cs, v.isCell = true := by cases h; exact ⟨_, rfl, ⟨‹_›, ‹_›⟩, ‹_›⟩
theorem VRel.tuple_inv {cs : List V} (h : VRel ρ (.tuple cs) x) : ∃ cs', x = .tuple cs' ∧ VRels ρ cs cs' := by cases h; exact ⟨_, rfl, ⟨‹_›, ‹_›⟩⟩
theorem VRel.iface_inv {t : TypeId} {v : V} (h : VRel ρ (.iface t v) x) : ∃ v', x = .iface t v' ∧ VRel ρ v v' := by cases h; exact ⟨_, rfl, ‹_›⟩
theorem PRel.some_inv {i o : Nat} {a : Option Addr} (h : PRel ρ (some (i, o)) a) : ∃ b, a = some b ∧ ∀ j, PRel ρ (some (i, o + j)) (some (b.add j)) := by
  cases h with
  | dead a h => exact ⟨a, rfl, fun j => .dead _ h⟩
  | live h => exact ⟨_, rfl, fun j => by rw [add_at, Nat.add_assoc]; exact .live h⟩
end inversions

section
variable {P : Program} {ρ : Ren} {H : Heap} {w : World} {o : Oper} {a : Act} {e : Env}

theorem ne_mov {x : Operand} (hop : o.op = .move x ∨ o.op = .assign x) {vs : List V} {eff : Eff} (hl : L2 (fun v x => VRel ρ v (a.eval x)) vs [x]) (hn : Kind.ne H .mov vs = some eff) :
    NeOk P ρ w ((execOp a.eval o).run P w) eff := by
  obtain ⟨v, rfl, hv⟩ := hl.one
  simp [Kind.ne, kMov] at hn
  subst hn
  rcases hop with h | h <;> exact ⟨_, by simp [execOp, h], hv⟩

theorem ne_pick {c x y : Operand} (hop : o.op = .pick c x y) {vs : List V} {eff : Eff} (hl : L2 (fun v x => VRel ρ v (a.eval x)) vs [c, x, y]) (hn : Kind.ne H .pick vs = some eff) :
    NeOk P ρ w ((execOp a.eval o).run P w) eff := by
  obtain ⟨v1, v2, v3, rfl, h1, h2, h3⟩ := hl.three
  simp only [Kind.ne, kPick] at hn
  split at hn
  case h_2 => cases hn
  rename_i b x' y' heq
  simp at heq; obtain ⟨rfl, rfl, rfl⟩ := heq
  cases hn
  have h1' := h1.bool_inv
  refine ⟨if b then a.eval x else a.eval y, by simp [execOp, hop, asBool, h1'], ?_⟩
  cases b
  · exact h3
  · exact h2

theorem ne_nilc {x : Operand} (hop : o.op = .nilCheck x) {vs : List V} {eff : Eff} (hl : L2 (fun v x => VRel ρ v (a.eval x)) vs [x]) (hn : Kind.ne H .nilc vs = some eff) :
    NeOk P ρ w ((execOp a.eval o).run P w) eff := by
  obtain ⟨v, rfl, hv⟩ := hl.one
  simp only [Kind.ne, kNilc] at hn
  split at hn
  case h_3 => cases hn
  · rename_i p heq
    simp at heq; subst heq; cases hn
    obtain ⟨ad, h1, h2⟩ := hv.ptr_inv
    obtain ⟨i, j⟩ := p
    obtain ⟨b, rfl, _⟩ := h2.some_inv
    exact ⟨.pointer (some b), by simp [execOp, hop, h1], .ptr h2⟩
  · rename_i f cs heq
    simp at heq; subst heq; cases hn
    generalize hx : a.eval x = y at hv
    cases hv with
    | func h1 h2 => exact ⟨_, by simp [execOp, hop, hx], .func h1 h2⟩

theorem ne_fa {s : TypeId} {f : Nat} {x : Operand} {fs : Array Field} {fd : Field} {n : Nat} (hop : o.op = .fieldAddr s x f) (hs : P.underlying s = some (.struct fs)) (hf : fs[f]? = some fd) (hz : szT P fd.type = some n) (h0 : n ≠ 0)
    {vs : List V} {eff : Eff} (hl : L2 (fun v x => VRel ρ v (a.eval x)) vs [x]) (hn : Kind.ne H (.fa fd.offset) vs = some eff) :
    NeOk P ρ w ((execOp a.eval o).run P w) eff := by
  obtain ⟨v, rfl, hv⟩ := hl.one
  simp only [Kind.ne, kFa] at hn
  split at hn
  case h_2 => cases hn
  rename_i i j heq
  simp at heq; subst heq; cases hn
  obtain ⟨ad, h1, h2⟩ := hv.ptr_inv
  obtain ⟨b, rfl, h3⟩ := h2.some_inv
  exact ⟨.pointer (some (b.add fd.offset)), by simp [execOp, hop, Instr.fieldAt, run_underlying hs, hf, h1, Instr.sureAddr, fieldPlace, run_szT hz, h0], .ptr (h3 _)⟩

theorem ne_iaA {t el : TypeId} {x i : Operand} {len s : Nat} (hop : o.op = .indexAddr t x i) (ht : P.underlying t = some (.array len el)) (hz : szT P el = some s)
    {vs : List V} {eff : Eff} (hl : L2 (fun v x => VRel ρ v (a.eval x)) vs [x, i]) (hn : Kind.ne H (.iaA len s) vs = some eff) :
    NeOk P ρ w ((execOp a.eval o).run P w) eff := by
  obtain ⟨v, u, rfl, hv, hu⟩ := hl.two
  simp only [Kind.ne, kIaA] at hn
  split at hn
  case h_2 => cases hn
  rename_i i1 j1 kk n heq
  simp at heq; obtain ⟨rfl, rfl⟩ := heq
  split at hn
  case isFalse => cases hn
  rename_i hb
  cases hn
  obtain ⟨ad, h1, h2⟩ := hv.ptr_inv
  obtain ⟨b, rfl, h3⟩ := h2.some_inv
  exact ⟨.pointer (some (b.add (n.toNat * s))), by simp [execOp, hop, Instr.indexAt, hu.int_inv, asIntOf, run_underlying ht, h1, Instr.sureAddr, run_szT hz, hb.1, hb.2], .ptr (h3 _)⟩

theorem ne_iaS {t el : TypeId} {x i : Operand} {s : Nat} (hop : o.op = .indexAddr t x i) (ht : P.underlying t = some (.slice el)) (hz : szT P el = some s)
    {vs : List V} {eff : Eff} (hl : L2 (fun v x => VRel ρ v (a.eval x)) vs [x, i]) (hn : Kind.ne H (.iaS s) vs = some eff) :
    NeOk P ρ w ((execOp a.eval o).run P w) eff := by
  obtain ⟨v, u, rfl, hv, hu⟩ := hl.two
  simp only [Kind.ne, kIaS] at hn
  split at hn
  case h_2 => cases hn
  rename_i i1 j1 len full es0 kk n heq
  simp at heq; obtain ⟨rfl, rfl⟩ := heq
  split at hn
  case isFalse => cases hn
  rename_i hb
  cases hn
  obtain ⟨ad, cap, h1, h2⟩ := hv.slice_inv
  cases h2 with
  | dead ad h _ _ => exact ⟨.pointer (some (ad.add (n.toNat * s))), by simp [execOp, hop, Instr.indexAt, hu.int_inv, asIntOf, run_underlying ht, h1, run_szT hz, hb.1, hb.2], .ptr (.dead _ h)⟩
  | live h hlen hfull hoff hroom =>
    have hne : len ≠ 0 := by rintro rfl; have := hb.2; omega
    have e := hoff hne
    subst e
    rename_i ro1 b1 o1 n1
    exact ⟨.pointer (some ((⟨b1, o1 + j1, none⟩ : Addr).add (n.toNat * s))), by simp [execOp, hop, Instr.indexAt, hu.int_inv, asIntOf, run_underlying ht, h1, run_szT hz, hb.1, hb.2], .ptr (by rw [add_at, Nat.add_assoc]; exact .live h)⟩

theorem run_part {t : TypeId} {n : Nat} {g : Bool} (hz : szT P t = some n) (hg : aggT P t = some g) {cs : List V} {cs' : Array Value} (hr : VRels ρ cs cs') (hc : ∀ v ∈ cs, v.isCell = true) {off : Nat} {v : V}
    (hv : (if g then some (V.agg ((cs.drop off).take n)) else cs[off]?) = some v) (w : World) : ∃ v', (part t cs' off).run P w = .ok v' w ∧ VRel ρ v v' := by
  unfold part
  simp only [Sem.run_bind, run_isAgg hg, Result.andThen_ok]
  cases g with
  | false =>
    simp at hv
    obtain ⟨v', h1, h2⟩ := hr.get hv
    exact ⟨v', by simp [h1], h2⟩
  | true =>
    simp at hv
    subst hv
    refine ⟨.agg (cs'.extract off (off + n)), by simp [run_szT hz], .ofAgg ⟨by simp [hr.1]; omega, fun i v v' h1 h2 => ?_⟩ fun v h => hc v (List.mem_of_mem_drop (List.mem_of_mem_take h))⟩
    have hi : i < n := by
      rcases Nat.lt_or_ge i n with h | h
      · exact h
      · rw [List.getElem?_eq_none (by simp; omega)] at h1; cases h1
    rw [List.getElem?_take_of_lt hi, List.getElem?_drop] at h1
    refine hr.2 (off + i) v v' h1 ?_
    have hlt : i < (cs'.extract off (off + n)).size := by
      rcases Nat.lt_or_ge i (cs'.extract off (off + n)).size with h | h
      · exact h
      · rw [Array.getElem?_eq_none h] at h2; cases h2
    rw [Array.getElem?_eq_getElem hlt, Array.getElem_extract] at h2
    rw [← h2, Array.getElem?_eq_getElem]

theorem ne_ixA {t el : TypeId} {x i : Operand} {len s : Nat} {g : Bool} (hop : o.op = .index t x i) (ht : P.underlying t = some (.array len el)) (hz : szT P el = some s) (hg : aggT P el = some g)
    {vs : List V} {eff : Eff} (hl : L2 (fun v x => VRel ρ v (a.eval x)) vs [x, i]) (hn : Kind.ne H (.ixA len s g) vs = some eff) :
    NeOk P ρ w ((execOp a.eval o).run P w) eff := by
  obtain ⟨v, u, rfl, hv, hu⟩ := hl.two
  simp only [Kind.ne, kIxA] at hn
  split at hn
  case h_2 => cases hn
  rename_i cs kk n heq
  simp at heq; obtain ⟨rfl, rfl⟩ := heq
  split at hn
  case isFalse => cases hn
  rename_i hb
  obtain ⟨cs', h1, h2, h3⟩ := hv.agg_inv
  obtain ⟨r, hr, rfl⟩ : ∃ r, (if g then some (V.agg ((cs.drop (n.toNat * s)).take s)) else cs[n.toNat * s]?) = some r ∧ eff = .val r := by
    cases g with
    | true => simp at hn; exact ⟨_, rfl, hn.symm⟩
    | false =>
      simp only [Bool.false_eq_true, if_false] at hn ⊢
      cases hq : cs[n.toNat * s]? with
      | none => simp [hq] at hn
      | some r => simp [hq] at hn; exact ⟨r, rfl, hn.symm⟩
  obtain ⟨v', h4, h5⟩ := run_part hz hg h2 h3 hr w
  exact ⟨v', by simp [execOp, hop, Instr.index, hu.int_inv, asIntOf, run_underlying ht, h1, run_szT hz, hb.1, hb.2, h4], h5⟩

theorem ne_ixStr {t : TypeId} {x i : Operand} (hop : o.op = .index t x i) (ht : P.underlying t = some .string)
    {vs : List V} {eff : Eff} (hl : L2 (fun v x => VRel ρ v (a.eval x)) vs [x, i]) (hn : Kind.ne H .ixStr vs = some eff) :
    NeOk P ρ w ((execOp a.eval o).run P w) eff := by
  obtain ⟨v, u, rfl, hv, hu⟩ := hl.two
  simp only [Kind.ne, kIxStr] at hn
  split at hn
  case h_2 => cases hn
  rename_i s kk n heq
  simp at heq; obtain ⟨rfl, rfl⟩ := heq
  split at hn
  case isFalse => cases hn
  rename_i hb
  obtain ⟨t', h1, rfl⟩ := hv.str_inv
  cases hq : t'.data.toList[n.toNat]? with
  | none => simp [hq] at hn
  | some b =>
    simp [hq] at hn
    subst hn
    have hq' : t'[n.toNat]? = some b := by
      have hlt : n.toNat < t'.data.toList.length := by
        rcases Nat.lt_or_ge n.toNat t'.data.toList.length with h | h
        · exact h
        · rw [List.getElem?_eq_none h] at hq; cases hq
      have hlt' : n.toNat < t'.size := by rw [Array.length_toList] at hlt; exact hlt
      rw [List.getElem?_eq_getElem hlt] at hq
      rw [getElem?_pos t' n.toNat hlt']
      rw [← hq, ByteArray.getElem_eq_getElem_data, Array.getElem_toList]
    have hi := hu.int_inv
    refine ⟨.int .u8 b.toNat, ?_, .int _ _⟩
    simp only [execOp, hop, Instr.index, Sem.run_bind, hi, asIntOf, Sem.run_pure, Result.andThen_ok, run_underlying ht, h1]
    rw [if_pos hb, hq']
    rfl

theorem ne_fld {t : TypeId} {f : Nat} {x : Operand} {fs : Array Field} {fd : Field} {n : Nat} {g : Bool} (hop : o.op = .field t x f) (hs : P.underlying t = some (.struct fs)) (hf : fs[f]? = some fd) (hz : szT P fd.type = some n) (hg : aggT P fd.type = some g)
    {vs : List V} {eff : Eff} (hl : L2 (fun v x => VRel ρ v (a.eval x)) vs [x]) (hn : Kind.ne H (.fld fd.offset n g) vs = some eff) :
    NeOk P ρ w ((execOp a.eval o).run P w) eff := by
  obtain ⟨v, rfl, hv⟩ := hl.one
  simp only [Kind.ne, kFld] at hn
  split at hn
  case h_2 => cases hn
  rename_i cs heq
  simp at heq; subst heq
  obtain ⟨cs', h1, h2, h3⟩ := hv.agg_inv
  obtain ⟨r, hr, rfl⟩ : ∃ r, (if g then some (V.agg ((cs.drop fd.offset).take n)) else cs[fd.offset]?) = some r ∧ eff = .val r := by
    cases g with
    | true => simp at hn; exact ⟨_, rfl, hn.symm⟩
    | false =>
      simp only [Bool.false_eq_true, if_false] at hn ⊢
      cases hq : cs[fd.offset]? with
      | none => simp [hq] at hn
      | some r => simp [hq] at hn; exact ⟨r, rfl, hn.symm⟩
  obtain ⟨v', h4, h5⟩ := run_part hz hg h2 h3 hr w
  exact ⟨v', by simp [execOp, hop, Instr.field, run_underlying hs, hf, h1, asAgg, h4], h5⟩

end
end Go.Cn
