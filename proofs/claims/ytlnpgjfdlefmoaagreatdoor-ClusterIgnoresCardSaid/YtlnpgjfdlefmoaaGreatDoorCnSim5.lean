/- The operations that do not act, fourth part: reading memory, new blocks. -/
import Derived.Test.YtlnpgjfdlefmoaaGreatDoorCnSim4
import Derived.Laws.BytesString
import Derived.Laws.MakeOwn
import Derived.Laws.AppendOwn
import Derived.Lib.ConvBytes
namespace Go.Cn
set_option linter.unusedVariables false
set_option linter.unusedSimpArgs false
set_option maxHeartbeats 100000

section
variable {P : Program} {ρ : Ren} {H : Heap} {w : World} {o : Oper} {a : Act} {e : Env}

theorem ne_ld {t : TypeId} {x : Operand} {g : Bool} {n : Nat} (hop : o.op = .load t x) (hg : aggT P t = some g) (hz : szT P t = some n) (hr : Rel ρ H w)
    {vs : List V} {eff : Eff} (hl : L2 (fun v x => VRel ρ v (a.eval x)) vs [x]) (hn : Kind.ne H (.ld (if g then some n else none)) vs = some eff) :
    NeOk P ρ w ((execOp a.eval o).run P w) eff := by
  obtain ⟨v, rfl, hv⟩ := hl.one
  simp only [Kind.ne, kLd] at hn
  split at hn
  case h_2 => cases hn
  rename_i id off heq
  simp at heq; subst heq
  obtain ⟨ad, e1, hp⟩ := hv.ptr_inv
  cases g with
  | false =>
    simp only [Bool.false_eq_true, if_false] at hn
    split at hn
    case h_2 => cases hn
    rename_i es ro cs hb
    cases hq : cs[off]? with
    | none => simp [hq] at hn
    | some u =>
      simp [hq] at hn
      subst hn
      cases hp with
      | dead ad hd => rw [hr.dead hd] at hb; cases hb
      | live hl =>
        obtain ⟨u', h1, h2, h3⟩ := run_cell (P := P) hr hl hb hq
        exact ⟨u', by simp only [execOp, hop, Instr.loadAt, e1, Instr.sureAddr, loadVar, Sem.run_bind, Sem.run_pure, Result.andThen_ok, run_isAgg hg, Bool.false_eq_true, if_false, h1], h2⟩
  | true =>
    simp only [if_true] at hn
    cases hq : H.row id off n with
    | none => simp [hq] at hn
    | some us =>
      simp [hq] at hn
      subst hn
      cases hp with
      | dead ad hd => unfold Heap.row at hq; rw [hr.dead hd] at hq; cases hq
      | live hl =>
        obtain ⟨c, h1, h2, h3, h4⟩ := run_row (P := P) hr hl hq
        exact ⟨.agg c, by simp only [execOp, hop, Instr.loadAt, e1, Instr.sureAddr, loadVar, Sem.run_bind, Sem.run_pure, Result.andThen_ok, run_isAgg hg, if_true, run_szT hz, h1], .ofAgg h2 h3⟩

theorem Rel.mapAt (hr : Rel ρ H w) {id b n es : Nat} {ro : Bool} {l : List (V × V × Nat)} {clock : Nat} (hl : ρ id = .live ro b 0 n es) (hb : H.blk id = .map l clock) :
    ∃ l', w.heap[b]? = some (.map l' clock) ∧ EntriesRel ρ l l' := by
  have := hr.blk hl
  rw [hb] at this
  exact this.2.2

theorem run_getObj {b : Nat} {O : Obj} (h : w.heap[b]? = some O) (hc : ∀ c T f, O ≠ .cells c T f) : (getObj b).run P w = .ok O w := by
  unfold getObj
  cases O <;> first | exact absurd rfl (hc _ _ _) | simp [Sem.run, h]

theorem ne_lenM {c : Call} {t k el : TypeId} {x : Operand} (hop : o.op = .call c) (hc : c.callee = .builtin .len) (ha : c.args.toList = [x]) (hat : c.argTypes.toList = [t]) (ht : P.underlying t = some (.map k el)) (hr : Rel ρ H w)
    {vs : List V} {eff : Eff} (hl : L2 (fun v x => VRel ρ v (a.eval x)) vs [x]) (hn : Kind.ne H .lenM vs = some eff) :
    NeOk P ρ w ((execOp a.eval o).run P w) eff := by
  obtain ⟨v, rfl, hv⟩ := hl.one
  have ha' : c.args = #[x] := by rw [← ha]
  have hat' : c.argTypes = #[t] := by rw [← hat]
  simp only [Kind.ne, kLenM] at hn
  split at hn
  case h_2 => cases hn
  rename_i id heq
  simp at heq; subst heq
  split at hn
  case h_2 => cases hn
  rename_i l clock hb
  cases hn
  generalize hx : a.eval x = y at hv
  cases hv with
  | mapDead b hd => rw [hr.dead hd] at hb; cases hb
  | map hl =>
    rename_i ro b n es
    obtain ⟨l', h1, h2⟩ := hr.mapAt hl hb
    have h3 : (getObj b).run P w = .ok (.map l' clock) w := run_getObj h1 (by intros; simp)
    refine ⟨.int .i64 l'.size, by simp [execOp, hop, resolve, hc, invoke, builtin, ha', hat', Builtin.len_, hx, run_underlying ht, goInt, h3], ?_⟩
    rw [h2.1]; exact .int _ _

theorem bytes_row : ∀ {vs : List V} {c : List Value} {bs : List UInt8}, L2 (VRel ρ) vs c → bytesOfRow vs = some bs → c = bs.map fun b => Value.int .u8 (b.toNat : Int)
  | [], c, bs, h, hb => by cases h; simp [bytesOfRow] at hb; subst hb; rfl
  | v :: vs, c, bs, h, hb => by
    obtain _ | ⟨h1, h2⟩ := h
    unfold bytesOfRow at hb
    split at hb
    case h_2 => cases hb
    rename_i b bs' e1 e2
    cases hb
    unfold byteOf at e1
    split at e1
    case h_2 => cases e1
    rename_i n
    split at e1
    case isFalse => cases e1
    rename_i hn
    cases e1
    rw [bytes_row h2 e2, h1.int_inv, List.map_cons]
    congr 2
    simp
    omega

theorem fold_push : ∀ (bs : List UInt8) (s : ByteArray), ((bs.map fun b => (b.toNat : Int)).foldl (fun (r : ByteArray) n => r.push (UInt8.ofNat n.toNat)) s).data.toList = s.data.toList ++ bs
  | [], s => by simp
  | b :: bs, s => by
    simp only [List.map_cons, List.foldl_cons]
    rw [fold_push bs]
    simp

theorem ne_b2s {s d el : TypeId} {x : Operand} (hop : o.op = .convert s d x) (hs : P.underlying s = some (.slice el)) (he : P.underlying el = some (.int .u8)) (hd : P.underlying d = some .string) (hr : Rel ρ H w)
    {vs : List V} {eff : Eff} (hl : L2 (fun v x => VRel ρ v (a.eval x)) vs [x]) (hn : Kind.ne H .b2s vs = some eff) :
    NeOk P ρ w ((execOp a.eval o).run P w) eff := by
  obtain ⟨v, rfl, hv⟩ := hl.one
  simp only [Kind.ne, kB2s] at hn
  split at hn
  case h_3 => cases hn
  · rename_i len full es heq
    simp at heq; subst heq; cases hn
    obtain ⟨q, cap, e1, hq⟩ := hv.slice_inv
    cases hq
    exact ⟨.string .empty, by simp [execOp, hop, convert, run_underlying hs, run_underlying hd, run_underlying he, e1, Conv.bytesToString], .str rfl⟩
  · rename_i id off len full es heq
    simp at heq; subst heq
    cases hq : H.row id off len with
    | none => simp [hq] at hn
    | some us =>
      cases hb : bytesOfRow us with
      | none => simp [hq, hb] at hn
      | some bs =>
        simp [hq, hb] at hn
        subst hn
        obtain ⟨q, cap, e1, hs'⟩ := hv.slice_inv
        cases hs' with
        | dead ad hd' => unfold Heap.row at hq; rw [hr.dead hd'] at hq; cases hq
        | live hl h1 h2 h3 h4 =>
          rename_i ro b o1 n off'
          by_cases h0 : len = 0
          · subst h0
            have hus : us = [] := by
              unfold Heap.row at hq
              split at hq
              · split at hq
                · cases hq; simp
                · cases hq
              · cases hq
            subst hus
            simp [bytesOfRow] at hb
            subst hb
            exact ⟨.string .empty, by simp [execOp, hop, convert, run_underlying hs, run_underlying hd, run_underlying he, e1, Conv.bytesToString, loadCells, loadCellsFrom], .str rfl⟩
          · have := h3 h0
            subst this
            obtain ⟨c, g1, g2, g3, g4⟩ := run_row (P := P) hr hl hq
            have hc := bytes_row g2.l2 hb
            have hc' : c = ((bs.map fun b => (b.toNat : Int)).map (Value.int .u8)).toArray := by
              apply Array.ext'
              rw [hc]; simp
            rw [hc'] at g1
            have hrun := run_bytesToString (P := P) w ⟨b, o1 + off, none⟩ len cap _ g1
            refine ⟨.string _, ?_, .str ((fold_push bs ByteArray.empty).trans (by simp))⟩
            simp only [execOp, hop, Sem.run_bind, e1, run_convert_bytes_string w s d el _ _ _ hs he hd, hrun, Result.andThen_ok, Sem.run_pure]

/-- Two addresses of variables: the same block and place, or not. -/
theorem run_sameAddr {a b : Addr} {c c' : Array Value} {T T' : TypeId} (ha : w.heap[a.block]? = some (.cells c T (0, 0))) (hb : w.heap[b.block]? = some (.cells c' T' (0, 0))) :
    (sameAddr a b).run P w = .ok (a == b && a.block == b.block) w := by
  unfold sameAddr
  by_cases e : a.block = b.block
  · simp [e]
  · have e' : (a.block == b.block) = false := by simpa using e
    have fa : w.frozen? a = false := by simp only [World.frozen?, ha, Bool.and_eq_false_iff, decide_eq_false_iff_not]; omega
    have fb : w.frozen? b = false := by simp only [World.frozen?, hb, Bool.and_eq_false_iff, decide_eq_false_iff_not]; omega
    have sa : w.shape? a.block = some (T, c.size) := by simp [World.shape?, ha]
    have sb : w.shape? b.block = some (T', c'.size) := by simp [World.shape?, hb]
    have va : (noView a).run P w = .ok () w := by simp [noView, viewAt, sa]
    have vb : (noView b).run P w = .ok () w := by simp [noView, viewAt, sb]
    have ga : w.frozen? { block := a.block, off := c.size } = false := by simp only [World.frozen?, ha, Bool.and_eq_false_iff, decide_eq_false_iff_not]; omega
    have gb : w.frozen? { block := b.block, off := c'.size } = false := by simp only [World.frozen?, hb, Bool.and_eq_false_iff, decide_eq_false_iff_not]; omega
    have ta : (stringish a).run P w = .ok false w := by simp [stringish, fa, sa, ga]
    have tb : (stringish b).run P w = .ok false w := by simp [stringish, fb, sb, gb]
    have m : (mayBeOne a b).run P w = .ok false w := by
      simp only [mayBeOne, Sem.run_bind, ta, tb, Result.andThen_ok]
      simp [sa, sb]
    simp [e', fa, va, vb, m]

theorem ne_eqP {op : BinOp} {neg : Bool} (hop' : (op = .eql ∧ neg = false) ∨ (op = .neq ∧ neg = true)) {t u el : TypeId} {x y : Operand} {s : Nat} (hop : o.op = .binOp op t x y u) (ht : P.underlying t = some (.pointer el)) (hz : szT P el = some s) (h0 : s ≠ 0) (hr : Rel ρ H w)
    {vs : List V} {eff : Eff} (hl : L2 (fun v x => VRel ρ v (a.eval x)) vs [x, y]) (hn : Kind.ne H (.eqP neg) vs = some eff) :
    NeOk P ρ w ((execOp a.eval o).run P w) eff := by
  obtain ⟨v1, v2, rfl, h1, h2⟩ := hl.two
  simp only [Kind.ne, kEqP] at hn
  split at hn
  case h_4 => cases hn
  · rename_i b heq
    simp at heq; obtain ⟨rfl, rfl⟩ := heq; cases hn
    obtain ⟨p, e1, hp⟩ := h1.ptr_inv
    obtain ⟨q, e2, hq⟩ := h2.ptr_inv
    cases hp
    refine ⟨_, run_eqlneq hop' hop (b := q.isNone) (eqGuard_other (by simp [e1]) (by simp [e1]) w) ?_ (by rw [e1]; rfl), by rw [hq.isNone]; exact .bool _⟩
    rw [e1, e2, equal_ptr_nil ht none q (.inl rfl)]; simp
  · rename_i b heq
    simp at heq; obtain ⟨rfl, rfl⟩ := heq; cases hn
    obtain ⟨p, e1, hp⟩ := h1.ptr_inv
    obtain ⟨q, e2, hq⟩ := h2.ptr_inv
    cases hq
    have hpn := hp.isNone
    refine ⟨_, run_eqlneq hop' hop (b := false) (eqGuard_other (by simp [e1]) (by simp [e1]) w) ?_ (by rw [e1]; rfl), .bool _⟩
    rw [e1, e2, equal_ptr_nil ht p none (.inr rfl), hpn]; rfl
  · rename_i i x1 j y1 heq
    simp at heq; obtain ⟨rfl, rfl⟩ := heq
    split at hn
    case h_2 => cases hn
    rename_i cs cs' hbi hbj
    cases hn
    obtain ⟨p, e1, hp⟩ := h1.ptr_inv
    obtain ⟨q, e2, hq⟩ := h2.ptr_inv
    cases hp with
    | dead ad hd => rw [hr.dead hd] at hbi; cases hbi
    | live hi =>
      rename_i ro b o1 n es
      cases hq with
      | dead ad hd => rw [hr.dead hd] at hbj; cases hbj
      | live hj =>
        rename_i ro' b' o2 n' es'
        have A := hr.blk hi
        have B := hr.blk hj
        rw [hbi] at A
        rw [hbj] at B
        obtain ⟨rfl, rfl, _, c, ⟨T, lo, hi', hc, _, _, hz1⟩, _⟩ := A
        obtain ⟨rfl, rfl, _, c', ⟨T', lo', hi'', hc', _, _, hz2⟩, _⟩ := B
        obtain ⟨rfl, rfl⟩ := hz1 rfl
        obtain ⟨rfl, rfl⟩ := hz2 rfl
        have hsame := run_sameAddr (P := P) (a := ⟨b, o1 + x1, none⟩) (b := ⟨b', o2 + y1, none⟩) hc hc'
        refine ⟨_, run_eqlneq hop' hop (b := (i == j && x1 == y1)) (eqGuard_other (by simp [e1]) (by simp [e1]) w) ?_ (by rw [e1]; rfl), .bool _⟩
        rw [e1, e2, equal_succ, Op.equalIn]
        simp only [Sem.run_bind, run_underlying ht, Result.andThen_ok, run_szT hz, h0, ne_eq, not_false_eq_true, if_true, hsame]
        congr 1
        by_cases hij : i = j
        · subst hij
          rw [hi] at hj
          cases hj
          by_cases hxy : x1 = y1
          · subst hxy; simp
          · have h1 : (x1 == y1) = false := by simpa using hxy
            have h2 : ((⟨b, o1 + x1, none⟩ : Addr) == ⟨b, o1 + y1, none⟩) = false := by
              rw [beq_eq_false_iff_ne]
              intro e
              injection e with _ e2 _
              omega
            simp only [h1, h2, Bool.and_false, Bool.false_and]
        · have hbb : b ≠ b' := by
            intro e
            subst e
            exact hij (hr.inj hi hj (.inl rfl))
          have h1 : (i == j) = false := by simpa using hij
          have h2 : (b == b') = false := by simpa using hbb
          simp [h1, h2, hbb]

/-! ### New blocks -/
theorem Ren.upd_self (id : Nat) (s : St) : (ρ.upd id s) id = s := by simp [Ren.upd]

theorem cellsAt_new (c : Array Value) (T : TypeId) (es : Nat) {w' : World} (h : w'.heap = w.heap.push (.cells c T)) : CellsAt false w' w.heap.size c.size es c :=
  ⟨T, 0, 0, by rw [h]; simp, rfl, fun _ => .inr (Nat.le_refl _), fun _ => ⟨rfl, rfl⟩⟩

/-- A new row of cells stands for the abstract one. -/
theorem new_cells {cs : List V} {c : Array Value} {T : TypeId} {es : Nat} (h : VRels ρ cs c) (hc : ∀ v ∈ cs, v.isCell = true) {w' : World} (hw : w'.heap = w.heap.push (.cells c T)) (id : Nat) (ho : ρ id = .out) :
    BlkRel (ρ.upd id (.live false w.heap.size 0 c.size es)) w' w.heap.size 0 c.size es false (.cells es false cs) :=
  ⟨rfl, rfl, hc, c, cellsAt_new c T es hw, by rw [h.1]; omega, fun i v hv => let ⟨v', h1, h2⟩ := h.get hv; ⟨v', by rw [Nat.zero_add]; exact h1, h2.mono (Ren.upd_keeps ho)⟩⟩

theorem new_ptr {id b n es : Nat} : VRel (ρ.upd id (.live false b 0 n es)) (.ptr (some (id, 0))) (.pointer (some ⟨b, 0, none⟩)) :=
  .ptr (.live (Ren.upd_self _ _))

theorem new_slice {id b n es len cap : Nat} {full : Bool} (h : len ≤ cap) (hf : full = true → cap = len) (hroom : cap * es ≤ n) : VRel (ρ.upd id (.live false b 0 n es)) (.slice (some (id, 0)) len full es) (.slice (some ⟨b, 0, none⟩) len cap) :=
  .slice (.live (Ren.upd_self _ _) h hf (fun _ => rfl) (by omega))

theorem ne_alloc {t : TypeId} {z : List V} (hop : o.op = .alloc t) (hz : zeroT P t = some z) {vs : List V} {eff : Eff} (hl : vs = []) (hn : Kind.ne H (.alloc z) vs = some eff) :
    NeOk P ρ w ((execOp a.eval o).run P w) eff := by
  subst hl
  simp only [Kind.ne, kAlloc] at hn
  cases hn
  obtain ⟨zv, h1, h2, h3⟩ := zeroT_rel (ρ := ρ) hz
  refine ⟨.pointer (some ⟨w.heap.size, 0, none⟩), .cells zv.cells t, { w with heap := w.heap.push (.cells zv.cells t) }, ?_, rfl, rfl, rfl, zv.cells.size, 0, fun id ho => ⟨new_ptr, new_cells h2 h3 rfl id ho⟩⟩
  simp [execOp, hop, Instr.alloc, h1, newVar, newRow]

theorem ne_box {t : TypeId} {x : Operand} (hop : o.op = .box t x) {vs : List V} {eff : Eff} (hl : L2 (fun v x => VRel ρ v (a.eval x)) vs [x]) (hn : Kind.ne H .box vs = some eff) :
    NeOk P ρ w ((execOp a.eval o).run P w) eff := by
  obtain ⟨v, rfl, hv⟩ := hl.one
  simp only [Kind.ne, kBox] at hn
  split at hn
  case isFalse => cases hn
  rename_i hc
  cases hn
  have hcell : ∀ u ∈ v.cells, u.isCell = true := by simpa using hc
  have hcr := cells_rel hv hcell
  refine ⟨.pointer (some ⟨w.heap.size, 0, none⟩), .cells (a.eval x).cells t, { w with heap := w.heap.push (.cells (a.eval x).cells t) }, ?_, rfl, rfl, rfl, (a.eval x).cells.size, 0, fun id ho => ⟨new_ptr, new_cells hcr hcell rfl id ho⟩⟩
  simp [execOp, hop, Instr.box, newVar, newRow]

theorem ne_mkM {t : TypeId} (hop : o.op = .makeMap t none) {vs : List V} {eff : Eff} (hl : vs = []) (hn : Kind.ne H .mkM vs = some eff) :
    NeOk P ρ w ((execOp a.eval o).run P w) eff := by
  subst hl
  simp only [Kind.ne, kMkM] at hn
  cases hn
  refine ⟨.map (some w.heap.size), .map #[] 0, { w with heap := w.heap.push (.map #[] 0) }, ?_, rfl, rfl, rfl, 0, 0, fun id ho => ⟨.map (Ren.upd_self _ _), rfl, rfl, #[], by simp, rfl, fun i k v s h => by simp at h⟩⟩
  simp [execOp, hop, Instr.makeMap]

theorem zero_row (z : List V) (z' : Array Value) (h : VRels ρ z z') (hp : 0 < z.length) (len n : Nat) (hn : n = len * z.length) : ∃ c : Array Value, (Array.range n).map (fun i => z'[i % z'.size]!) = c ∧ c.size = n ∧ VRels ρ (List.replicate len z).flatten c := by
  have hzs := h.1
  have hpos : 0 < z'.size := by omega
  refine ⟨_, rfl, by simp, by simp [hn], fun i v v' hv hv' => ?_⟩
  have hi : i < n := by
    rcases Nat.lt_or_ge i n with h | h
    · exact h
    · rw [Array.getElem?_eq_none (by simpa using h)] at hv'; cases hv'
  have hv2 : (List.replicate len z).flatten[i]? = z[i % z.length]? := by
    clear hv hv' hzs hpos
    induction len generalizing i n with
    | zero => omega
    | succ k ih =>
      rw [List.replicate_succ, List.flatten_cons]
      by_cases hlt : i < z.length
      · rw [List.getElem?_append_left hlt, Nat.mod_eq_of_lt hlt]
      · rw [List.getElem?_append_right (by omega), ih (n - z.length) (by rw [hn, Nat.succ_mul]; omega) (i - z.length) (by omega)]
        congr 1
        rw [← Nat.mod_eq_sub_mod (by omega)]
  rw [hv2] at hv
  simp [hi] at hv'
  subst hv'
  have hm : i % z'.size < z'.size := Nat.mod_lt _ hpos
  rw [hzs] at hv
  refine h.2 _ v _ hv ?_
  rw [getElem!_pos z' _ hm]
  simp [hm]

theorem ne_bsl {t el : TypeId} {len s : Nat} {parts : Array (Nat × Operand)} {z : List V} {ps : List (Nat × Nat)} {ys : List Opd} (hop : o.op = .buildSlice t len parts) (ht : P.underlying t = some (.slice el)) (hs : szT P el = some s) (hz : zeroT P el = some z) (hs0 : 0 < s) (hzl : z.length = s) (hle : len * s ≤ 2 ^ 24)
    (hp : partsOf (fun i => some (i * s, s)) parts.toList = some (ps, ys)) (he : ERel ρ e a) {vs : List V} {eff : Eff} (hv : evs e ys = some vs) (hn : Kind.ne H (.bsl s len (List.replicate len z).flatten ps) vs = some eff) :
    NeOk P ρ w ((execOp a.eval o).run P w) eff := by
  simp only [Kind.ne, kBsl] at hn
  cases hf : fillV (List.replicate len z).flatten ps vs with
  | none => simp [hf] at hn
  | some cs =>
    simp [hf] at hn
    subst hn
    obtain ⟨zv, h1, h2, h3⟩ := zeroT_rel (ρ := ρ) hz
    have hparts : (parts.map fun (i, x) => (i, a.eval x)).toList = parts.toList.map fun (i, x) => (i, a.eval x) := by simp
    have hcz : ∀ v ∈ (List.replicate len z).flatten, v.isCell = true := by
      intro v hv
      obtain ⟨l, hl, hvl⟩ := List.mem_flatten.1 hv
      rw [List.eq_of_mem_replicate hl] at hvl
      exact h3 v hvl
    by_cases h0 : len = 0
    · subst h0
      simp at hf hp
      obtain ⟨cs', h4, h5, h6, h7⟩ := fill_ok hp he hv (z := []) (z' := #[]) VRels.nil (by simp) (by simpa using hf)
      refine ⟨.slice (some ⟨w.heap.size, 0, none⟩) 0 0, .cells cs' el, { w with heap := w.heap.push (.cells cs' el) }, ?_, rfl, rfl, rfl, cs'.size, s, fun id ho => ⟨new_slice (Nat.le_refl _) (fun _ => rfl) (by omega), new_cells h5 h6 rfl id ho⟩⟩
      have e0 : ∀ f : Nat → Value, (Array.range (0 * s)).map f = #[] := by intro f; simp
      have hgt : ¬ (0 * s > 2 ^ 24) := by omega
      have hz0 : 0 * s = 0 := Nat.zero_mul s
      simp only [execOp, hop, Instr.buildSlice, Sem.run_bind, run_underlying ht, Result.andThen_ok, run_szT hs, Sem.run_ite, hgt, if_false, e0, Sem.run_pure, hparts, h4, newRow, run_newObj]
      simp only [hz0, if_true, Sem.run_pure, Result.andThen_ok, e0, h4]
    · have hne : len * s ≠ 0 := Nat.mul_ne_zero h0 (by omega)
      obtain ⟨c0, e0, hc0, hr0⟩ := zero_row z zv.cells h2 (by omega) len (len * s) (by rw [hzl])
      obtain ⟨cs', h4, h5, h6, h7⟩ := fill_ok hp he hv hr0 hcz hf
      have hsz : cs'.size = len * s := by
        rw [← h5.1, h7]; simp [hzl]
      refine ⟨.slice (some ⟨w.heap.size, 0, none⟩) len len, .cells cs' el, { w with heap := w.heap.push (.cells cs' el) }, ?_, rfl, rfl, rfl, cs'.size, s, fun id ho => ⟨new_slice (Nat.le_refl _) (fun _ => rfl) (by omega), new_cells h5 h6 rfl id ho⟩⟩
      have hgt : ¬ (len * s > 2 ^ 24) := by omega
      simp only [execOp, hop, Instr.buildSlice, Sem.run_bind, run_underlying ht, Result.andThen_ok, run_szT hs, Sem.run_ite, hgt, if_false, hne, h1, Sem.run_pure, e0, hparts, h4, newRow, run_newObj]

theorem ne_mkS {t el : TypeId} {l c : Operand} {s b : Nat} {z : List V} (hop : o.op = .makeSlice t l c) (ht : P.underlying t = some (.slice el)) (hs : szT P el = some s) (hb : byT P el = some b) (hz : zeroT P el = some z) (hs0 : 0 < s) (hzl : z.length = s)
    {vs : List V} {eff : Eff} (hl : L2 (fun v x => VRel ρ v (a.eval x)) vs [l, c]) (hn : Kind.ne H (.mkS s b z) vs = some eff) :
    NeOk P ρ w ((execOp a.eval o).run P w) eff := by
  obtain ⟨v, u, rfl, hv, hu⟩ := hl.two
  simp only [Kind.ne, kMkS] at hn
  split at hn
  case h_2 => cases hn
  rename_i n m heq
  simp at heq; obtain ⟨rfl, rfl⟩ := heq
  split at hn
  case isFalse => cases hn
  rename_i hc
  obtain ⟨c1, c2, c4, c5⟩ := hc
  cases hn
  obtain ⟨i, hi, hib⟩ := run_byT hb
  obtain ⟨zv, h1, h2, h3⟩ := zeroT_rel (ρ := ρ) hz
  have hzz : ∃ zv', i.zero = some zv' := by
    have := h1 w
    cases hz0 : i.zero with
    | none => simp [zeroValue, run_info hi, hz0] at this
    | some zv' => exact ⟨zv', rfl⟩
  obtain ⟨zv', hz0⟩ := hzz
  obtain rfl : zv' = zv := by
    have := h1 w
    simp [zeroValue, run_info hi, hz0] at this
    exact this
  have his : i.size = s := by
    have := hs
    simp [szT, hi] at this
    exact this
  subst hib
  subst his
  obtain ⟨n, rfl⟩ := Int.eq_ofNat_of_zero_le c1
  obtain ⟨m, rfl⟩ := Int.eq_ofNat_of_zero_le (Int.le_trans c1 c2)
  have hrun := run_make (P := P) w t el i zv' ht hi hz0 .i64 .i64 n m c1 c2 (by omega) (by omega)
  have hcell : ∀ v ∈ (List.replicate n z).flatten, v.isCell = true := by
    intro v hv
    obtain ⟨l, hl, hvl⟩ := List.mem_flatten.1 hv
    rw [List.eq_of_mem_replicate hl] at hvl
    exact h3 v hvl
  obtain ⟨c0, e0, e1, e2⟩ := zero_row z zv'.cells h2 (by omega) m (m * i.size) (by rw [hzl])
  have hc0 : madeCells zv'.cells (m * i.size) = c0 := e0
  have hnm : n ≤ m := by omega
  refine ⟨.slice (some ⟨w.heap.size, 0, none⟩) n m, .cells c0 el, w.alloc (.cells c0 el), ?_, rfl, rfl, rfl, c0.size, i.size, fun id ho => ⟨new_slice hnm (fun hf => ?_) (Nat.le_of_eq e1.symm), rfl, rfl, ?_, c0, cellsAt_new c0 el i.size rfl, ?_, ?_⟩⟩
  · have ev := hv.int_inv
    have eu := hu.int_inv
    simp only [execOp, hop, Sem.run_bind, ev, eu, hrun, Result.andThen_ok, Sem.run_pure, Int.toNat_natCast, hc0]
  · simp at hf; omega
  · simpa using hcell
  · simp [e1, hzl]; exact Nat.mul_le_mul_right _ hnm
  · intro j v hv
    simp only [Int.toNat_natCast] at hv
    have hpre : (List.replicate m z).flatten = (List.replicate n z).flatten ++ (List.replicate (m - n) z).flatten := by
      rw [← List.flatten_append, List.replicate_append_replicate]; congr 2; omega
    have hj : j < (List.replicate n z).flatten.length := by
      rcases Nat.lt_or_ge j (List.replicate n z).flatten.length with h | h
      · exact h
      · rw [List.getElem?_eq_none h] at hv; cases hv
    have hv' : (List.replicate m z).flatten[j]? = some v := by rw [hpre, List.getElem?_append_left hj]; exact hv
    obtain ⟨v', g1, g2⟩ := e2.get hv'
    exact ⟨v', by rw [Nat.zero_add]; exact g1, g2.mono (Ren.upd_keeps ho)⟩

theorem ne_s2b {s d el : TypeId} {x : Operand} (hop : o.op = .convert s d x) (hs : P.underlying s = some .string) (hd : P.underlying d = some (.slice el)) (he : P.underlying el = some (.int .u8))
    {vs : List V} {eff : Eff} (hl : L2 (fun v x => VRel ρ v (a.eval x)) vs [x]) (hn : Kind.ne H .s2b vs = some eff) :
    NeOk P ρ w ((execOp a.eval o).run P w) eff := by
  obtain ⟨v, rfl, hv⟩ := hl.one
  simp only [Kind.ne, kS2b] at hn
  split at hn
  case h_2 => cases hn
  rename_i bs heq
  simp at heq; subst heq; cases hn
  obtain ⟨u, e1, rfl⟩ := hv.str_inv
  have hrun := Lib.run_convert_string_bytes (P := P) w s d el u hs hd he
  have hg := grownCap_ge w u.size 0 el
  have hsz : (Lib.bytesCells w el u).size = grownCap w u.size 0 el := by
    simp [Lib.bytesCells]
    have : u.data.size = u.size := rfl
    omega
  have hheap : (Lib.bytesWorld w el u).heap = w.heap.push (.cells (Lib.bytesCells w el u) el ((Lib.bytesCells w el u).size, (Lib.bytesCells w el u).size + 1)) := by
    apply Array.ext_getElem?
    intro j
    rcases Nat.lt_trichotomy j w.heap.size with h | h | h
    · rw [Lib.bytesWorld_at_old w el u j h, Array.getElem?_push_lt h]; simp [h]
    · subst h; rw [Lib.bytesWorld_at_new]; simp
    · rw [Array.getElem?_eq_none (by rw [Lib.bytesWorld_size]; omega), Array.getElem?_eq_none (by simp; omega)]
  have hus : u.size = u.data.toList.length := size_eq
  have hat : CellsAt false (Lib.bytesWorld w el u) w.heap.size (Lib.bytesCells w el u).size 1 (Lib.bytesCells w el u) :=
    ⟨el, _, _, Lib.bytesWorld_at_new w el u, rfl, fun _ => .inl (Nat.le_refl _), fun h => by cases h⟩
  refine ⟨.slice (some ⟨w.heap.size, 0, none⟩) u.size (grownCap w u.size 0 el), _, Lib.bytesWorld w el u, ?_, hheap, by simp [Lib.bytesWorld, World.freeze, World.alloc, World.drew, -World.alloc_eq, -World.drew_eq], by simp [Lib.bytesWorld, World.freeze, World.alloc, World.drew, -World.alloc_eq, -World.drew_eq], (Lib.bytesCells w el u).size, 1, fun id ho => ⟨?_, rfl, rfl, ?_, Lib.bytesCells w el u, hat, ?_, ?_⟩⟩
  · simp only [execOp, hop, Sem.run_bind, e1, hrun, Result.andThen_ok, Sem.run_pure]
  · rw [← hus]
    exact new_slice hg (fun h => by cases h) (by rw [hsz]; omega)
  · intro v hv
    simp [rowOfBytes] at hv
    obtain ⟨b, _, rfl⟩ := hv
    rfl
  · rw [hsz]
    have : (rowOfBytes u.data.toList).length = u.size := by simp [rowOfBytes]
    omega
  · intro j v hv
    simp only [rowOfBytes, List.getElem?_map] at hv
    cases hj : u.data.toList[j]? with
    | none => simp [hj] at hv
    | some b =>
      simp [hj] at hv
      subst hv
      refine ⟨.int .u8 b.toNat, ?_, .int _ _⟩
      have hlt : j < u.data.size := by
        rcases Nat.lt_or_ge j u.data.size with h | h
        · exact h
        · rw [Array.getElem?_toList, Array.getElem?_eq_none h] at hj; cases hj
      rw [Nat.zero_add]
      unfold Lib.bytesCells
      rw [Array.getElem?_append_left (by simpa using hlt)]
      rw [Array.getElem?_toList] at hj
      simp [hj]

theorem ne_rng {t k el : TypeId} {x : Operand} (hop : o.op = .range t x) (ht : P.underlying t = some (.map k el)) (hr : Rel ρ H w)
    {vs : List V} {eff : Eff} (hl : L2 (fun v x => VRel ρ v (a.eval x)) vs [x]) (hn : Kind.ne H .rng vs = some eff) :
    NeOk P ρ w ((execOp a.eval o).run P w) eff := by
  obtain ⟨v, rfl, hv⟩ := hl.one
  simp only [Kind.ne, kRng] at hn
  split at hn
  case h_2 => cases hn
  rename_i id heq
  simp at heq; subst heq
  split at hn
  case h_2 => cases hn
  rename_i l clock hb
  cases hn
  generalize hx : a.eval x = y at hv
  cases hv with
  | mapDead b hd => rw [hr.dead hd] at hb; cases hb
  | map hl =>
    rename_i ro b n es
    obtain ⟨l', h1, h2⟩ := hr.mapAt hl hb
    have h3 : (getObj b).run P w = .ok (.map l' clock) w := run_getObj h1 (by intros; simp)
    refine ⟨.pointer (some ⟨w.heap.size, 0, none⟩), .mapIter (some b) clock #[] clock, { w with heap := w.heap.push (.mapIter (some b) clock #[] clock) }, ?_, rfl, rfl, rfl, 0, 0, fun it ho => ⟨new_ptr, rfl, rfl, b, by simp, .inr ⟨ro, n, es, ?_⟩⟩⟩
    · simp [execOp, hop, Instr.range, hx, run_underlying ht, h3]
    · have : id ≠ it := by rintro rfl; rw [ho] at hl; cases hl
      simp [Ren.upd, this, hl]

end
end Go.Cn
