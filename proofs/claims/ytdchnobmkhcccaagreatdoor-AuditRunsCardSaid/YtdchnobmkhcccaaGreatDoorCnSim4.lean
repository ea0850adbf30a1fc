/- The operations that do not act, third part: lengths, slicing, building, reading, new blocks. -/
import Derived.Test.YtdchnobmkhcccaaGreatDoorCnSim3
namespace Go.Cn
set_option linter.unusedVariables false
set_option linter.unusedSimpArgs false
set_option maxHeartbeats 100000

section
variable {P : Program} {ρ : Ren} {H : Heap} {w : World} {o : Oper} {a : Act} {e : Env}

theorem size_eq {t : ByteArray} : t.size = t.data.toList.length := by rw [Array.length_toList]; rfl

theorem ne_lenS {c : Call} {t el : TypeId} {x : Operand} (hop : o.op = .call c) (hc : c.callee = .builtin .len) (ha : c.args.toList = [x]) (hat : c.argTypes.toList = [t]) (ht : P.underlying t = some (.slice el))
    {vs : List V} {eff : Eff} (hl : L2 (fun v x => VRel ρ v (a.eval x)) vs [x]) (hn : Kind.ne H .lenS vs = some eff) :
    NeOk P ρ w ((execOp a.eval o).run P w) eff := by
  obtain ⟨v, rfl, hv⟩ := hl.one
  have ha' : c.args = #[x] := by rw [← ha]
  have hat' : c.argTypes = #[t] := by rw [← hat]
  simp only [Kind.ne, kLenS] at hn
  split at hn
  case h_2 => cases hn
  rename_i p n full es0 heq
  simp at heq; subst heq; cases hn
  obtain ⟨q, cap, e1, _⟩ := hv.slice_inv
  exact ⟨_, by simp [execOp, hop, resolve, hc, invoke, builtin, ha', hat', Builtin.len_, e1, run_underlying ht, goInt], .int _ _⟩

theorem ne_capS {c : Call} {t el : TypeId} {x : Operand} (hop : o.op = .call c) (hc : c.callee = .builtin .cap) (ha : c.args.toList = [x]) (hat : c.argTypes.toList = [t]) (ht : P.underlying t = some (.slice el))
    {vs : List V} {eff : Eff} (hl : L2 (fun v x => VRel ρ v (a.eval x)) vs [x]) (hn : Kind.ne H .capS vs = some eff) :
    NeOk P ρ w ((execOp a.eval o).run P w) eff := by
  obtain ⟨v, rfl, hv⟩ := hl.one
  have ha' : c.args = #[x] := by rw [← ha]
  have hat' : c.argTypes = #[t] := by rw [← hat]
  simp only [Kind.ne, kCapS] at hn
  split at hn
  case h_3 => cases hn
  · rename_i n full es0 heq
    simp at heq; subst heq; cases hn
    obtain ⟨q, cap, e1, hs⟩ := hv.slice_inv
    cases hs
    exact ⟨_, by simp [execOp, hop, resolve, hc, invoke, builtin, ha', hat', Builtin.cap_, e1, run_underlying ht, goInt], .int _ _⟩
  · rename_i p n es0 heq
    simp at heq; subst heq; cases hn
    obtain ⟨q, cap, e1, hs⟩ := hv.slice_inv
    have hcap : cap = n := by
      cases hs with
      | dead a h hl hf => exact hf rfl
      | live h hl hf h1 h2 => exact hf rfl
    subst hcap
    exact ⟨_, by simp [execOp, hop, resolve, hc, invoke, builtin, ha', hat', Builtin.cap_, e1, run_underlying ht, goInt], .int _ _⟩

theorem ne_lenT {c : Call} {t : TypeId} {x : Operand} (hop : o.op = .call c) (hc : c.callee = .builtin .len) (ha : c.args.toList = [x]) (hat : c.argTypes.toList = [t]) (ht : P.underlying t = some .string)
    {vs : List V} {eff : Eff} (hl : L2 (fun v x => VRel ρ v (a.eval x)) vs [x]) (hn : Kind.ne H .lenT vs = some eff) :
    NeOk P ρ w ((execOp a.eval o).run P w) eff := by
  obtain ⟨v, rfl, hv⟩ := hl.one
  have ha' : c.args = #[x] := by rw [← ha]
  have hat' : c.argTypes = #[t] := by rw [← hat]
  simp only [Kind.ne, kLenT] at hn
  split at hn
  case h_2 => cases hn
  rename_i s heq
  simp at heq; subst heq; cases hn
  obtain ⟨u, e1, rfl⟩ := hv.str_inv
  exact ⟨.int .i64 u.size, by simp [execOp, hop, resolve, hc, invoke, builtin, ha', hat', Builtin.len_, e1, run_underlying ht, goInt], by rw [size_eq]; exact .int _ _⟩

theorem ne_lenK {c : Call} {t el : TypeId} {x : Operand} {n : Nat} (hop : o.op = .call c) (hc : c.callee = .builtin .len) (ha : c.args.toList = [x]) (hat : c.argTypes.toList = [t]) (ht : P.underlying t = some (.array n el))
    {vs : List V} {eff : Eff} (hl : L2 (fun v x => VRel ρ v (a.eval x)) vs [x]) (hn : Kind.ne H (.lenK n) vs = some eff) :
    NeOk P ρ w ((execOp a.eval o).run P w) eff := by
  obtain ⟨v, rfl, hv⟩ := hl.one
  have ha' : c.args = #[x] := by rw [← ha]
  have hat' : c.argTypes = #[t] := by rw [← hat]
  simp only [Kind.ne, kLenK] at hn
  cases hn
  exact ⟨_, by simp [execOp, hop, resolve, hc, invoke, builtin, ha', hat', Builtin.len_, run_underlying ht, goInt], .int _ _⟩

theorem bound_ok {x : Value} {i : Int} (hx : x = .int .i64 i) (y : Nat) (code : BoundsCode) (h : 0 ≤ i ∧ i ≤ y) (w : World) : (Instr.sliceBound x y code).run P w = .ok i.toNat w := by
  subst hx
  simp [Instr.sliceBound, asIntOf, h.1, h.2]

theorem bounds_ok {isSlice : Bool} {lo hi : Option Operand} {len most cap : Nat} (hm : most ≤ cap) (hlm : len ≤ cap) {vs : List V} {x y : Nat} (hl : L2 (fun v x => VRel ρ v (a.eval x)) vs (lo.toList ++ hi.toList)) (h : bounds lo.isSome hi.isSome len most vs = some (x, y)) (w : World) :
    (Instr.sliceBounds isSlice len cap (lo.map a.eval) (hi.map a.eval) none).run P w = .ok (x, y, cap) w ∧ x ≤ y ∧ (y ≤ most ∨ y = len) := by
  cases lo with
  | none =>
    cases hi with
    | none =>
      obtain rfl := hl.nil_inv
      simp [bounds] at h
      obtain ⟨rfl, rfl⟩ := h
      exact ⟨by simp [Instr.sliceBounds], by omega, .inr rfl⟩
    | some hi =>
      obtain ⟨v, rfl, hv⟩ := hl.one
      simp only [bounds, Option.isSome] at h
      split at h
      all_goals first | (rename_i h1 _ _; cases h1; done) | (rename_i h1 h2 _; cases h2; done) | skip
      all_goals first | (cases h; done) | skip
      rename_i b heq
      simp at heq; subst heq
      split at h
      case isFalse => cases h
      rename_i hb
      cases h
      refine ⟨?_, by omega, .inl (by omega)⟩
      have := bound_ok (P := P) hv.int_inv cap (if isSlice then .sliceAcap else .sliceAlen) ⟨hb.1, by omega⟩ w
      simp [Instr.sliceBounds, this]
  | some lo =>
    cases hi with
    | none =>
      obtain ⟨v, rfl, hv⟩ := hl.one
      simp only [bounds, Option.isSome] at h
      split at h
      all_goals first | (rename_i h1 _ _; cases h1; done) | (rename_i h1 h2 _; cases h2; done) | skip
      all_goals first | (cases h; done) | skip
      rename_i b heq
      simp at heq; subst heq
      split at h
      case isFalse => cases h
      rename_i hb
      cases h
      refine ⟨?_, by omega, .inr rfl⟩
      have := bound_ok (P := P) hv.int_inv len .sliceB ⟨hb.1, by omega⟩ w
      simp [Instr.sliceBounds, this]
    | some hi =>
      obtain ⟨v, u, rfl, hv, hu⟩ := hl.two
      simp only [bounds, Option.isSome] at h
      split at h
      all_goals first | (rename_i h1 _ _; cases h1; done) | (rename_i h1 h2 _; cases h2; done) | skip
      all_goals first | (cases h; done) | skip
      rename_i b c _ _ heq
      simp at heq; obtain ⟨rfl, rfl⟩ := heq
      split at h
      case isFalse => cases h
      rename_i hb
      cases h
      refine ⟨?_, by omega, .inl (by omega)⟩
      have h1 := bound_ok (P := P) hu.int_inv cap (if isSlice then .sliceAcap else .sliceAlen) ⟨hb.1, by omega⟩ w
      have h2 := bound_ok (P := P) hv.int_inv _ .sliceB ⟨hb.2.2.1, by rw [Int.toNat_of_nonneg hb.1]; exact hb.2.2.2⟩ w
      simp [Instr.sliceBounds, h1, h2]

theorem SRel.le {p : Option (Nat × Nat)} {len cap es : Nat} {full : Bool} {q : Option Addr} (h : SRel ρ p len full es q cap) : len ≤ cap := by
  cases h with
  | nil => exact Nat.le_refl _
  | dead a h h1 h2 => exact h1
  | live h h1 h2 h3 h4 => exact h1

theorem SRel.cap {p : Option (Nat × Nat)} {len cap es : Nat} {q : Option Addr} (h : SRel ρ p len true es q cap) : cap = len := by
  cases h with
  | nil => rfl
  | dead a h h1 h2 => exact h2 rfl
  | live h h1 h2 h3 h4 => exact h2 rfl

/-- A slice of a slice. -/
theorem SRel.sub {p : Option (Nat × Nat)} {len cap x y m es s : Nat} {full : Bool} {q : Option Addr} (h : SRel ρ p len full es q cap) (hxy : x ≤ y) (hy : y ≤ len) (hm : y ≤ m) (hmc : m ≤ cap) (f' : Bool) (hf : f' = true → m = y)
    (hs : es = s ∨ p = none) :
    SRel ρ (p.map fun (id, o) => (id, o + x * s)) (y - x) f' es (if m = x then q else q.map (·.add (x * s))) (m - x) := by
  cases h with
  | nil => obtain rfl : m = 0 := by omega
           obtain rfl : x = 0 := by omega
           obtain rfl : y = 0 := by omega
           exact .nil
  | dead a hd h1 h2 =>
    rename_i id off
    have hd' : ∀ b : Addr, SRel ρ (some (id, off + x * s)) (y - x) f' es (some b) (m - x) := fun b => .dead b hd (by omega) (fun e => by rw [hf e])
    simp only [Option.map_some]
    split
    · exact hd' _
    · exact hd' _
  | live hl h1 h2 h3 h4 =>
    rename_i id off ro b o n off'
    obtain rfl : es = s := hs.resolve_right (by simp)
    simp only [Option.map_some]
    split
    · rename_i hmx
      subst hmx
      refine .live hl (by omega) (fun e => by rw [hf e]) (fun e => by omega) ?_
      simp only [Nat.sub_self, Nat.zero_mul]
      omega
    · rename_i hmx
      rw [add_at]
      refine .live hl (by omega) (fun e => by rw [hf e]) (fun e => ?_) ?_
      · have := h3 (by omega); omega
      · have : (m - x) * es + x * es = m * es := by rw [← Nat.add_mul]; congr 1; omega
        have : m * es ≤ cap * es := Nat.mul_le_mul_right _ hmc
        omega

theorem ne_slS {t el : TypeId} {x : Operand} {lo hi : Option Operand} {s : Nat} (hop : o.op = .slice t x lo hi none) (ht : P.underlying t = some (.slice el)) (hz : szT P el = some s)
    {vs : List V} {eff : Eff} (hl : L2 (fun v x => VRel ρ v (a.eval x)) vs (x :: (lo.toList ++ hi.toList))) (hn : Kind.ne H (.slS s lo.isSome hi.isSome false) vs = some eff) :
    NeOk P ρ w ((execOp a.eval o).run P w) eff := by
  obtain ⟨v, us, rfl, hv, hu⟩ := hl.cons_inv
  simp only [Kind.ne, Bool.false_eq_true, if_false, kSlS] at hn
  split at hn
  case h_2 => cases hn
  rename_i p len full es l heq
  simp at heq; obtain ⟨rfl, rfl⟩ := heq
  split at hn
  case isFalse => cases hn
  rename_i hes
  cases hb : bounds lo.isSome hi.isSome len len us with
  | none => simp [hb] at hn
  | some xy =>
    obtain ⟨x1, y1⟩ := xy
    simp [hb] at hn
    subst hn
    obtain ⟨q, cap, e1, hq⟩ := hv.slice_inv
    obtain ⟨h1, h2, h3⟩ := bounds_ok (P := P) (isSlice := true) hq.le hq.le hu hb w
    have hy : y1 ≤ len := by omega
    refine ⟨.slice (if cap = x1 then q else q.map (·.add (x1 * s))) (y1 - x1) (cap - x1), ?_, .slice (hq.sub h2 hy (Nat.le_trans hy hq.le) (Nat.le_refl _) _ ?_ hes)⟩
    · simp only [execOp, hop, Instr.sliceAt, Option.map_none, Sem.run_bind, run_underlying ht, Result.andThen_ok, Instr.slice, e1, h1, run_szT hz, Sem.run_pure]
    · intro hf
      simp at hf
      obtain ⟨rfl, rfl⟩ := hf
      exact hq.cap

theorem ne_sl3 {t el : TypeId} {x lo hi mx : Operand} {s : Nat} (hop : o.op = .slice t x (some lo) (some hi) (some mx)) (ht : P.underlying t = some (.slice el)) (hz : szT P el = some s)
    {vs : List V} {eff : Eff} (hl : L2 (fun v x => VRel ρ v (a.eval x)) vs [x, lo, hi, mx]) (hn : Kind.ne H (.slS s true true true) vs = some eff) :
    NeOk P ρ w ((execOp a.eval o).run P w) eff := by
  obtain ⟨v, us, rfl, hv, hu⟩ := hl.cons_inv
  obtain ⟨u1, u2, u3, rfl, hu1, hu2, hu3⟩ := hu.three
  simp only [Kind.ne, if_true, kSl3] at hn
  split at hn
  case h_2 => cases hn
  rename_i p len full es n1 n2 n3 heq
  simp at heq; obtain ⟨rfl, rfl, rfl, rfl⟩ := heq
  split at hn
  case isFalse => cases hn
  rename_i hb
  obtain ⟨b1, b2, b3, b4, hes⟩ := hb
  cases hn
  obtain ⟨q, cap, e1, hq⟩ := hv.slice_inv
  have hle := hq.le
  have c1 := bound_ok (P := P) hu3.int_inv cap .slice3Acap ⟨by omega, by omega⟩ w
  have c2 := bound_ok (P := P) hu2.int_inv n3.toNat .slice3B ⟨by omega, by omega⟩ w
  have c3 := bound_ok (P := P) hu1.int_inv n2.toNat .slice3C ⟨by omega, by omega⟩ w
  have hfl : (n2 == n3) = true → n3.toNat = n2.toNat := by
    intro h
    have : n2 = n3 := by simpa using h
    rw [this]
  refine ⟨.slice (if n3.toNat = n1.toNat then q else q.map (·.add (n1.toNat * s))) (n2.toNat - n1.toNat) (n3.toNat - n1.toNat), ?_, .slice (hq.sub (by omega) (by omega) (by omega) (by omega) _ hfl hes)⟩
  simp [execOp, hop, Instr.sliceAt, run_underlying ht, Instr.slice, e1, Instr.sliceBounds, c1, c2, c3, run_szT hz]

theorem extract_list (t : ByteArray) (x y : Nat) : (t.extract x y).data.toList = (t.data.toList.drop x).take (y - x) := by
  rw [ByteArray.data_extract, Array.toList_extract]

theorem ne_slStr {t : TypeId} {x : Operand} {lo hi : Option Operand} (hop : o.op = .slice t x lo hi none) (ht : P.underlying t = some .string)
    {vs : List V} {eff : Eff} (hl : L2 (fun v x => VRel ρ v (a.eval x)) vs (x :: (lo.toList ++ hi.toList))) (hn : Kind.ne H (.slStr lo.isSome hi.isSome) vs = some eff) :
    NeOk P ρ w ((execOp a.eval o).run P w) eff := by
  obtain ⟨v, us, rfl, hv, hu⟩ := hl.cons_inv
  simp only [Kind.ne, kSlStr] at hn
  split at hn
  case h_2 => cases hn
  rename_i str l heq
  simp at heq; obtain ⟨rfl, rfl⟩ := heq
  cases hb : bounds lo.isSome hi.isSome str.length str.length us with
  | none => simp [hb] at hn
  | some xy =>
    obtain ⟨x1, y1⟩ := xy
    simp [hb] at hn
    subst hn
    obtain ⟨u, e1, rfl⟩ := hv.str_inv
    rw [← size_eq] at hb
    obtain ⟨h1, h2, h3⟩ := bounds_ok (P := P) (isSlice := false) (Nat.le_refl _) (Nat.le_refl _) hu hb w
    refine ⟨.string (u.extract x1 y1), ?_, .str (extract_list _ _ _)⟩
    simp [execOp, hop, Instr.sliceAt, run_underlying ht, Instr.slice, e1, h1]

/-! ### Building -/
theorem wr_length : ∀ (cs : List V) (n : Nat) (vs : List V), n + vs.length ≤ cs.length → (wr cs n vs).length = cs.length
  | cs, 0, [], _ => by cases cs <;> simp [wr]
  | [], 0, v :: vs, h => by simp at h
  | [], n + 1, vs, h => by simp at h
  | c :: cs, 0, v :: vs, h => by simp [wr, wr_length cs 0 vs (by simp at h; omega)]
  | c :: cs, n + 1, vs, h => by simp [wr, wr_length cs n vs (by simp at h; omega)]

theorem wr_get : ∀ (cs : List V) (n : Nat) (vs : List V) (i : Nat), n + vs.length ≤ cs.length → (wr cs n vs)[i]? = if n ≤ i ∧ i < n + vs.length then vs[i - n]? else cs[i]?
  | cs, 0, [], i, _ => by cases cs <;> simp [wr]
  | [], 0, v :: vs, i, h => by simp at h
  | [], n + 1, vs, i, h => by simp at h
  | c :: cs, 0, v :: vs, i, h => by
    cases i with
    | zero => simp [wr]
    | succ i => simp [wr, wr_get cs 0 vs i (by simp at h; omega)]
  | c :: cs, n + 1, vs, i, h => by
    cases i with
    | zero => simp [wr]
    | succ i =>
      simp only [wr, List.getElem?_cons_succ, wr_get cs n vs i (by simp at h; omega)]
      by_cases hc : n ≤ i ∧ i < n + vs.length
      · rw [if_pos hc, if_pos (by omega)]; congr 1; omega
      · rw [if_neg hc, if_neg (by omega)]

theorem wr_cells {cs vs : List V} {n : Nat} (h : n + vs.length ≤ cs.length) (h1 : ∀ v ∈ cs, v.isCell = true) (h2 : ∀ v ∈ vs, v.isCell = true) : ∀ v ∈ wr cs n vs, v.isCell = true := by
  intro v hv
  obtain ⟨i, hi, rfl⟩ := List.mem_iff_getElem.1 hv
  have := wr_get cs n vs i h
  rw [List.getElem?_eq_getElem hi] at this
  split at this
  · exact h2 _ (List.mem_of_getElem? this.symm)
  · exact h1 _ (List.mem_of_getElem? this.symm)

theorem wr_cons : ∀ (z : List V) (n : Nat) (v : V) (vs : List V), n < z.length → wr z n (v :: vs) = wr (z.set n v) (n + 1) vs
  | [], n, v, vs, h => by simp at h
  | c :: cs, 0, v, vs, h => by simp [wr]
  | c :: cs, n + 1, v, vs, h => by simp only [wr, List.set_cons_succ]; rw [wr_cons cs n v vs (by simpa using h)]

theorem VRels.set {z : List V} {z' : Array Value} {v : V} {v' : Value} (h : VRels ρ z z') (hv : VRel ρ v v') (i : Nat) : VRels ρ (z.set i v) (z'.setIfInBounds i v') := by
  refine ⟨by simp [h.1], fun j u u' hu hu' => ?_⟩
  rw [List.getElem?_set] at hu
  rw [Array.getElem?_setIfInBounds] at hu'
  by_cases e : i = j
  · subst e
    simp only [if_true] at hu hu'
    have := h.1
    split at hu <;> split at hu' <;> simp_all
  · rw [if_neg e] at hu hu'
    exact h.2 j u u' hu hu'

/-- The model's way of laying a part. -/
theorem lay_rel : ∀ {vs : List V} {l : List Value} (hl : L2 (VRel ρ) vs l) {z : List V} {z' : Array Value} (off k : Nat), VRels ρ z z' → off + k + vs.length ≤ z.length →
    VRels ρ (wr z (off + k) vs) ((l.zipIdx k).foldl (fun cs (c, j) => cs.setIfInBounds (off + j) c) z')
  | [], l, hl, z, z', off, k, hz, hb => by
    cases hl
    have : wr z (off + k) [] = z := by
      apply List.ext_getElem?
      intro i
      rw [wr_get z (off + k) [] i (by simpa using hb), if_neg (by simp)]
    rw [this]
    exact hz
  | v :: vs, l, hl, z, z', off, k, hz, hb => by
    obtain _ | ⟨h1, h2⟩ := hl
    simp only [List.length_cons] at hb
    rw [wr_cons z (off + k) v vs (by omega)]
    simp only [List.zipIdx_cons, List.foldl_cons]
    exact lay_rel h2 off (k + 1) (hz.set h1 (off + k)) (by simp; omega)

theorem fill_ok {place : Nat → Option (Nat × Nat)} : ∀ {parts : List (Nat × Operand)} {ps : List (Nat × Nat)} {ys : List Opd} {vs : List V} {z : List V} {z' : Array Value} {cs : List V},
    partsOf place parts = some (ps, ys) → ERel ρ e a → evs e ys = some vs → VRels ρ z z' → (∀ v ∈ z, v.isCell = true) → fillV z ps vs = some cs →
    ∃ cs', Instr.fill place z' (parts.map fun (i, x) => (i, a.eval x)) = some cs' ∧ VRels ρ cs cs' ∧ (∀ v ∈ cs, v.isCell = true) ∧ cs.length = z.length
  | [], ps, ys, vs, z, z', cs, hp, he, hv, hz, hc, hf => by
    simp [partsOf] at hp
    obtain ⟨rfl, rfl⟩ := hp
    simp [evs] at hv
    subst hv
    simp [fillV] at hf
    subst hf
    exact ⟨z', rfl, hz, hc, rfl⟩
  | (i, x) :: r, ps, ys, vs, z, z', cs, hp, he, hv, hz, hc, hf => by
    unfold partsOf at hp
    split at hp
    case h_2 => cases hp
    rename_i p y ps' ys' e1 e2 e3
    cases hp
    unfold evs at hv
    split at hv
    case h_2 => cases hv
    rename_i v vs' e4 e5
    cases hv
    obtain ⟨off, sz⟩ := p
    unfold fillV at hf
    split at hf
    case isFalse => cases hf
    rename_i hb
    obtain ⟨hb1, hb2, hb3⟩ := hb
    have hr := opd_rel he e2 e4
    have hcell : ∀ u ∈ v.cells, u.isCell = true := by simpa using hb3
    have hcr := cells_rel hr hcell
    have hlen : off + 0 + v.cells.length ≤ z.length := by omega
    have hnew := lay_rel hcr.l2 off 0 hz hlen
    obtain ⟨cs', h1, h2, h3, h4⟩ := fill_ok e3 he e5 hnew (wr_cells hlen hc hcell) hf
    refine ⟨cs', ?_, h2, h3, by rw [h4, wr_length _ _ _ hlen]⟩
    simp only [List.map_cons, Instr.fill, e1]
    have d1 := hcr.1
    have d2 := hz.1
    rw [if_neg]
    · rw [← Array.foldl_toList, Array.toList_zipIdx]
      exact h1
    · simp
      omega

def plS (f : Field) : Sem (Nat × Nat) := do pure (f.offset, ← sizeOf f.type)

theorem run_places : ∀ (l : List Field), (l.all fun (f : Field) => (szT P f.type).isSome) = true → ∃ r : List (Nat × Nat), (l.mapM plS).run P w = .ok r w ∧ ∀ i : Nat, r[i]? = (l[i]?).bind (plF P)
  | [], _ => ⟨[], by simp, fun i => by simp⟩
  | f :: l, h => by
    simp only [List.all_cons, Bool.and_eq_true] at h
    obtain ⟨r, h1, h2⟩ := run_places l h.2
    obtain ⟨s, hs⟩ := Option.isSome_iff_exists.1 h.1
    refine ⟨(f.offset, s) :: r, ?_, fun i => ?_⟩
    · rw [List.mapM_cons]
      simp only [plS, Sem.run_bind, run_szT hs, Result.andThen_ok, Sem.run_pure] at h1 ⊢
      rw [h1]
      rfl
    · cases i with
      | zero => simp [plF, hs]
      | succ i => simpa using h2 i

theorem ne_bld {t : TypeId} {parts : Array (Nat × Operand)} {pl : Nat → Option (Nat × Nat)} {z : List V} {ps : List (Nat × Nat)} {ys : List Opd} (hop : o.op = .build t parts) (hpl : placesOf P t = some pl) (hz : zeroT P t = some z) (hp : partsOf pl parts.toList = some (ps, ys))
    (he : ERel ρ e a) {vs : List V} {eff : Eff} (hv : evs e ys = some vs) (hn : Kind.ne H (.bld z ps) vs = some eff) :
    NeOk P ρ w ((execOp a.eval o).run P w) eff := by
  simp only [Kind.ne, kBld] at hn
  cases hf : fillV z ps vs with
  | none => simp [hf] at hn
  | some cs =>
    simp [hf] at hn
    subst hn
    obtain ⟨zv, h1, h2, h3⟩ := zeroT_rel (ρ := ρ) hz
    obtain ⟨cs', h4, h5, h6, h7⟩ := fill_ok hp he hv h2 h3 hf
    refine ⟨.agg cs', ?_, .ofAgg h5 h6⟩
    have hparts : (parts.map fun (i, x) => (i, a.eval x)).toList = parts.toList.map fun (i, x) => (i, a.eval x) := by simp
    unfold placesOf at hpl
    split at hpl
    · rename_i fs hu
      split at hpl
      case isFalse => cases hpl
      rename_i hall
      cases hpl
      obtain ⟨r, h8, h9⟩ := run_places (P := P) (w := w) fs.toList hall
      have hm : (fs.mapM plS).run P w = .ok r.toArray w := by
        rw [Array.mapM_eq_mapM_toList]
        simp only [Sem.run_map, h8, Result.andThen_ok]
      have hpl : (fun i => r.toArray[i]?) = fun i : Nat => (fs[i]?).bind (plF P) := by
        funext i
        simpa using h9 i
      have hm' : (fs.mapM fun (f : Field) => (do pure (f.offset, ← sizeOf f.type) : Sem (Nat × Nat))).run P w = .ok r.toArray w := hm
      simp only [execOp, hop, Instr.build, Sem.run_bind, h1, Result.andThen_ok, run_underlying hu, hm', hpl, hparts, h4, Sem.run_pure]
    · rename_i n el hu
      cases hs : szT P el with
      | none => simp [hs] at hpl
      | some s =>
        simp [hs] at hpl
        subst hpl
        simp only [execOp, hop, Instr.build, Sem.run_bind, h1, Result.andThen_ok, run_underlying hu, run_szT hs, hparts, h4, Sem.run_pure]
    · cases hpl

end
end Go.Cn
