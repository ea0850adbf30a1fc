/- The operations that do not act, second part: arithmetic, comparisons, slicing, tuples, building. -/
import Derived.Test.YtdchnobmkhcccaaGreatDoorCnEq
import Derived.Lib.IndexBytes
namespace Go.Cn
set_option linter.unusedVariables false
set_option linter.unusedSimpArgs false
set_option maxHeartbeats 40000

theorem strLt_eq : ∀ (a b : List UInt8), strLt a b = Op.bytesLess a b
  | _, [] => by cases ‹List UInt8› <;> rfl
  | [], _ :: _ => rfl
  | a :: x, b :: y => by simp [strLt, Op.bytesLess, strLt_eq x y]

section
variable {P : Program} {ρ : Ren} {H : Heap} {w : World} {o : Oper} {a : Act} {e : Env}

theorem binV_ok {op : BinOp} {t : TypeId} {x y : V} {x' y' : Value} (hx : VRel ρ x x') (hy : VRel ρ y y') {v : V} (h : binV op x y = some v) (w : World) : ∃ v', (binOp op t x' y').run P w = .ok v' w ∧ VRel ρ v v' := by
  unfold binV at h
  split at h
  · rename_i k m k' n
    rw [hx.int_inv, hy.int_inv]
    split at h
    · split at h
      case isTrue => cases h
      cases h
      rename_i hb
      exact ⟨_, by simp [binOp, Op.shift, hb], .int _ _⟩
    · split at h
      case isTrue => cases h
      cases h
      rename_i hb
      exact ⟨_, by simp [binOp, Op.shift, hb], .int _ _⟩
    · rename_i h1 h2
      split at h
      case isFalse => cases h
      rename_i hk
      subst hk
      have hkk : (binOp op t (.int k m) (.int k n)).run P w = (match op with
          | .add | .sub | .mul => Op.intArith op k m n
          | .quo | .rem => Op.intDiv op k m n
          | .and | .or | .xor | .andNot => Op.intBits op k m n
          | _ => Op.intCmp op m n : Sem Value).run P w := by
        cases op <;> first | exact (h1 rfl).elim | exact (h2 rfl).elim | (simp only [binOp, ne_eq, not_true_eq_false, if_false])
      rw [hkk]
      cases op <;> simp only [intBin] at h
      case shl => cases h
      case shr => cases h
      case quo =>
        split at h
        · cases h
        · cases h; rename_i hb; exact ⟨_, by simp only [Op.intDiv, hb, if_false, Sem.run_pure], .int _ _⟩
      case rem =>
        split at h
        · cases h
        · cases h; rename_i hb; exact ⟨_, by simp only [Op.intDiv, hb, if_false, Sem.run_pure], .int _ _⟩
      all_goals (cases h; first | exact ⟨_, rfl, .int _ _⟩ | exact ⟨_, rfl, .bool _⟩)
  · rename_i s u
    obtain ⟨s', rfl, rfl⟩ := hx.str_inv
    obtain ⟨u', rfl, rfl⟩ := hy.str_inv
    have hss : (binOp op t (.string s') (.string u')).run P w = (Op.stringOp op s' u').run P w := by cases op <;> rfl
    rw [hss]
    cases op <;> simp only [strBin, strLt_eq] at h
    case eql => cases h; exact ⟨_, by simp only [Op.stringOp, ByteArray.toList_eq, Sem.run_pure], .bool _⟩
    case neq => cases h; exact ⟨_, by simp only [Op.stringOp, ByteArray.toList_eq, Sem.run_pure], .bool _⟩
    case lss => cases h; exact ⟨_, by simp only [Op.stringOp, ByteArray.toList_eq, Sem.run_pure], .bool _⟩
    case leq => cases h; exact ⟨_, by simp only [Op.stringOp, ByteArray.toList_eq, Sem.run_pure], .bool _⟩
    case gtr => cases h; exact ⟨_, by simp only [Op.stringOp, ByteArray.toList_eq, Sem.run_pure], .bool _⟩
    case geq => cases h; exact ⟨_, by simp only [Op.stringOp, ByteArray.toList_eq, Sem.run_pure], .bool _⟩
    all_goals first | (cases h; done) | skip
    split at h
    case isFalse => cases h
    rename_i hb
    cases h
    refine ⟨.string (s' ++ u'), ?_, .str (by simp)⟩
    have hb' : ¬ ((s'.size + u'.size : Nat) : Int) > IntKind.i64.max := by
      have e : IntKind.i64.max = 9223372036854775807 := by decide
      rw [e]
      simp only [Array.length_toList] at hb
      have e1 : s'.size = s'.data.size := rfl
      have e2 : u'.size = u'.data.size := rfl
      omega
    simp only [Op.stringOp]
    rw [if_neg hb']
    rfl
  · cases h

theorem ite_both {α : Type} {c : Prop} [Decidable c] {x y r : α} (h1 : x = r) (h2 : y = r) : (if c then x else y) = r := by split <;> assumption

theorem eqGuard_off {op : BinOp} {t : TypeId} {x y : Operand} {v u : Value} (h : (∀ xs ys, v = .agg xs → u = .agg ys → P.eqGuardType P.depth t = false) ∧ (v = .nilIface → u = .nilIface → isNilC y = true)) (w : World) :
    (eqGuard op t x y v u).run P w = .ok () w := by
  unfold eqGuard
  rw [Sem.run_ite]
  refine ite_both rfl ?_
  cases v with
  | nilIface =>
    cases u with
    | nilIface =>
      have := h.2 rfl rfl
      cases y with
      | const c => cases x <;> rfl
      | _ => simp [isNilC] at this
    | _ => rfl
  | agg xs =>
    cases u with
    | agg ys => simp [h.1 xs ys rfl rfl]
    | _ => rfl
  | _ => rfl

theorem eqGuard_other {op : BinOp} {t : TypeId} {x y : Operand} {v u : Value} (h1 : ∀ xs, v ≠ .agg xs) (h2 : v ≠ .nilIface) (w : World) : (eqGuard op t x y v u).run P w = .ok () w :=
  eqGuard_off ⟨fun xs ys e _ => absurd e (h1 xs), fun e _ => absurd e h2⟩ w

theorem binV_guard {op : BinOp} {x y : V} {v : V} (h : binV op x y = some v) : (∃ k n, x = .int k n) ∨ ∃ s, x = .str s := by
  unfold binV at h
  split at h
  · exact .inl ⟨_, _, rfl⟩
  · exact .inr ⟨_, rfl⟩
  · cases h

theorem ne_bin {op : BinOp} {t u : TypeId} {x y : Operand} (hop : o.op = .binOp op t x y u) {vs : List V} {eff : Eff} (hl : L2 (fun v x => VRel ρ v (a.eval x)) vs [x, y]) (hn : Kind.ne H (.bin op) vs = some eff) :
    NeOk P ρ w ((execOp a.eval o).run P w) eff := by
  obtain ⟨v1, v2, rfl, h1, h2⟩ := hl.two
  simp only [Kind.ne, kBin] at hn
  cases hb : binV op v1 v2 with
  | none => simp [hb] at hn
  | some v =>
    simp [hb] at hn
    subst hn
    obtain ⟨v', h3, h4⟩ := binV_ok (P := P) (t := t) h1 h2 hb w
    have hg : (eqGuard op t x y (a.eval x) (a.eval y)).run P w = .ok () w := by
      refine eqGuard_other ?_ ?_ w
      · intro xs e
        rcases binV_guard hb with ⟨k, n, rfl⟩ | ⟨s, rfl⟩
        · rw [h1.int_inv] at e; cases e
        · obtain ⟨t', e', _⟩ := h1.str_inv; rw [e'] at e; cases e
      · intro e
        rcases binV_guard hb with ⟨k, n, rfl⟩ | ⟨s, rfl⟩
        · rw [h1.int_inv] at e; cases e
        · obtain ⟨t', e', _⟩ := h1.str_inv; rw [e'] at e; cases e
    exact ⟨v', by simp only [execOp, hop, Sem.run_bind, hg, Result.andThen_ok, h3, Sem.run_pure], h4⟩

/-- No number and no string. -/
def odd : Value → Bool
  | .int _ _ | .string _ | .float _ _ | .complex _ _ _ => false
  | _ => true

theorem binOp_eql {t : TypeId} {x y : Value} (h : odd x = true) : binOp .eql t x y = (do pure (.bool (← Op.equal t x y))) := by
  cases x <;> first | (simp [odd] at h; done) | (cases y <;> rfl)

theorem binOp_neq {t : TypeId} {x y : Value} (h : odd x = true) : binOp .neq t x y = (do pure (.bool (!(← Op.equal t x y)))) := by
  cases x <;> first | (simp [odd] at h; done) | (cases y <;> rfl)

/-- How '==' and '!=' stand to the run of 'equal'. -/
theorem run_eqlneq {op : BinOp} {neg : Bool} (hop' : (op = .eql ∧ neg = false) ∨ (op = .neq ∧ neg = true)) {t u : TypeId} {x y : Operand} (hop : o.op = .binOp op t x y u) {b : Bool}
    (hg : (eqGuard op t x y (a.eval x) (a.eval y)).run P w = .ok () w) (hq : (Op.equal t (a.eval x) (a.eval y)).run P w = .ok b w)
    (hodd : odd (a.eval x) = true) :
    (execOp a.eval o).run P w = .ok (.value (.bool (xor neg b))) w := by
  have hb : (binOp op t (a.eval x) (a.eval y)).run P w = .ok (.bool (xor neg b)) w := by
    rcases hop' with ⟨rfl, rfl⟩ | ⟨rfl, rfl⟩
    · rw [binOp_eql hodd]; simp only [Sem.run_bind, hq, Result.andThen_ok, Sem.run_pure, Bool.false_xor]
    · rw [binOp_neq hodd]; simp only [Sem.run_bind, hq, Result.andThen_ok, Sem.run_pure, Bool.true_xor]
  simp only [execOp, hop, Sem.run_bind, hg, Result.andThen_ok, hb, Sem.run_pure]

theorem equal_succ (t : TypeId) (x y : Value) : Op.equal t x y = Op.equalIn (9999 + 1) t x y := rfl

theorem ne_eqB {op : BinOp} {neg : Bool} (hop' : (op = .eql ∧ neg = false) ∨ (op = .neq ∧ neg = true)) {t u : TypeId} {x y : Operand} (hop : o.op = .binOp op t x y u) (ht : P.underlying t = some .bool)
    {vs : List V} {eff : Eff} (hl : L2 (fun v x => VRel ρ v (a.eval x)) vs [x, y]) (hn : Kind.ne H (.eqB neg) vs = some eff) :
    NeOk P ρ w ((execOp a.eval o).run P w) eff := by
  obtain ⟨v1, v2, rfl, h1, h2⟩ := hl.two
  simp only [Kind.ne, kEqB] at hn
  split at hn
  case h_2 => cases hn
  rename_i p q heq
  simp at heq; obtain ⟨rfl, rfl⟩ := heq
  cases hn
  have e1 := h1.bool_inv
  have e2 := h2.bool_inv
  refine ⟨_, run_eqlneq hop' hop (b := p == q) (eqGuard_other (by simp [e1]) (by simp [e1]) w) ?_ (by rw [e1]; rfl), .bool _⟩
  rw [e1, e2, equal_succ, Op.equalIn]
  simp only [Sem.run_bind, run_underlying ht, Result.andThen_ok, Sem.run_pure]

theorem ne_eqF {op : BinOp} {neg : Bool} (hop' : (op = .eql ∧ neg = false) ∨ (op = .neq ∧ neg = true)) {t u : TypeId} {x y : Operand} {ks : List LeafK} (hop : o.op = .binOp op t x y u) (hk : flatKey P t = some ks)
    (hag : aggT P t = some true) {vs : List V} {eff : Eff} (hl : L2 (fun v x => VRel ρ v (a.eval x)) vs [x, y]) (hn : Kind.ne H (.eqF neg ks) vs = some eff) :
    NeOk P ρ w ((execOp a.eval o).run P w) eff := by
  obtain ⟨v1, v2, rfl, h1, h2⟩ := hl.two
  simp only [Kind.ne, kEqF] at hn
  split at hn
  case h_2 => cases hn
  rename_i p q heq
  simp at heq; obtain ⟨rfl, rfl⟩ := heq
  cases hc : cellsEq ks p q with
  | none => simp [hc] at hn
  | some r =>
    simp [hc] at hn
    subst hn
    obtain ⟨p', e1, hp, _⟩ := h1.agg_inv
    obtain ⟨q', e2, hq, _⟩ := h2.agg_inv
    have hle := cellsEq_leafs hp.l2 hq.l2 hc
    have hln := leafsEq_len hle
    have heq := equal_ok hk p'.toList q'.toList (.agg p') (.agg q') r w (by simp [seg, hag, hln.1]) (by simp [seg, hag, hln.2]) hle
    refine ⟨_, run_eqlneq hop' hop (b := r) (eqGuard_off ⟨fun xs ys _ _ => ?_, fun e => by rw [e1] at e; cases e⟩ w) (by rw [e1, e2]; exact heq) (by rw [e1]; rfl), .bool _⟩
    unfold flatKey at hk
    split at hk
    case isFalse => cases hk
    unfold flatK at hk
    unfold aggT at hag
    cases hu : P.underlying t with
    | none => simp [hu] at hag
    | some kd =>
      cases kd <;> simp only [hu] at hk hag <;> first
        | (cases hag; done)
        | (split at hk; · rename_i hh; exact hh.2
           cases hk; done)
        | (split at hk; · assumption
           cases hk; done)

theorem equal_ptr_nil {t el : TypeId} (ht : P.underlying t = some (.pointer el)) (p q : Option Addr) (h : p = none ∨ q = none) (w : World) : (Op.equal t (.pointer p) (.pointer q)).run P w = .ok (p.isNone && q.isNone) w := by
  rw [equal_succ, Op.equalIn]
  simp only [Sem.run_bind, run_underlying ht, Result.andThen_ok]
  cases p <;> cases q <;> first
    | rfl
    | (rcases h with h | h <;> cases h)

theorem PRel.isNone {p : Option (Nat × Nat)} {q : Option Addr} (h : PRel ρ p q) : q.isNone = p.isNone := by cases h <;> rfl
theorem SRel.isNone {p : Option (Nat × Nat)} {len cap es : Nat} {full : Bool} {q : Option Addr} (h : SRel ρ p len full es q cap) : q.isNone = p.isNone := by cases h <;> rfl

theorem ne_eqN {op : BinOp} {neg : Bool} (hop' : (op = .eql ∧ neg = false) ∨ (op = .neq ∧ neg = true)) {t u : TypeId} {x y : Operand} (hop : o.op = .binOp op t x y u) (hy : isNilC y = true)
    (ht : (∃ el, P.underlying t = some (.pointer el)) ∧ (∃ c, y = .const (.pointer c)) ∨ (∃ el, P.underlying t = some (.slice el)) ∧ (∃ c n m, y = .const (.slice c n m)) ∨ (∃ ms, P.underlying t = some (.interface ms)) ∧ y = .const .nilIface)
    {vs : List V} {eff : Eff} (hl : L2 (fun v x => VRel ρ v (a.eval x)) vs [x, y]) (hn : Kind.ne H (.eqN neg) vs = some eff) :
    NeOk P ρ w ((execOp a.eval o).run P w) eff := by
  obtain ⟨v1, v2, rfl, h1, h2⟩ := hl.two
  simp only [Kind.ne, kEqN] at hn
  rcases ht with ⟨⟨el, ht⟩, c, rfl⟩ | ⟨⟨el, ht⟩, c, n, m, rfl⟩ | ⟨⟨ms, ht⟩, rfl⟩
  · have hc : c = none := by cases c <;> simp [isNilC] at hy ⊢
    subst hc
    have e2 : a.eval (.const (.pointer none)) = .pointer none := rfl
    rw [e2] at h2
    cases v2 <;> cases h2
    rename_i hp
    cases hp
    split at hn <;> first | (cases hn; done) | skip
    · rename_i p heq
      simp at heq; subst heq; cases hn
      obtain ⟨q, e1, hq⟩ := h1.ptr_inv
      refine ⟨_, run_eqlneq hop' hop (b := q.isNone) (eqGuard_other (by simp [e1]) (by simp [e1]) w) ?_ (by rw [e1]; rfl), ?_⟩
      · rw [e1, e2, equal_ptr_nil ht q none (.inr rfl)]; simp
      · rw [hq.isNone]; exact .bool _
    all_goals (rename_i heq; simp at heq)
  · have hc : c = none ∧ n = 0 ∧ m = 0 := by
      unfold isNilC at hy
      split at hy <;> simp_all
    obtain ⟨rfl, rfl, rfl⟩ := hc
    have e2 : a.eval (.const (.slice none 0 0)) = .slice none 0 0 := rfl
    rw [e2] at h2
    cases v2 <;> cases h2
    rename_i hp
    cases hp
    split at hn <;> first | (cases hn; done) | skip
    all_goals (rename_i heq; simp at heq)
    obtain ⟨rfl, _⟩ := heq
    cases hn
    obtain ⟨q, cap, e1, hq⟩ := h1.slice_inv
    refine ⟨_, run_eqlneq hop' hop (b := q.isNone) (eqGuard_other (by simp [e1]) (by simp [e1]) w) ?_ (by rw [e1]; rfl), ?_⟩
    · rw [e1, e2, equal_succ, Op.equalIn]
      simp only [Sem.run_bind, run_underlying ht, Result.andThen_ok]
      cases q <;> rfl
    · rw [hq.isNone]; exact .bool _
  · have e2 : a.eval (.const .nilIface) = .nilIface := rfl
    rw [e2] at h2
    cases v2 <;> cases h2
    split at hn <;> first | (cases hn; done) | skip
    all_goals (rename_i heq; simp at heq)
    · subst heq; cases hn
      have e1 : a.eval x = .nilIface := by
        generalize a.eval x = z at h1
        cases h1; rfl
      refine ⟨_, run_eqlneq hop' hop (b := true) (eqGuard_off ⟨fun xs ys e => (by rw [e1] at e; cases e), fun _ _ => rfl⟩ w) ?_ (by rw [e1]; rfl), .bool _⟩
      rw [e1, e2, equal_succ, Op.equalIn]
      simp only [Sem.run_bind, run_underlying ht, Result.andThen_ok]
      rfl
    · subst heq; cases hn
      obtain ⟨v', e1, _⟩ := h1.iface_inv
      refine ⟨_, run_eqlneq hop' hop (b := false) (eqGuard_other (by simp [e1]) (by simp [e1]) w) ?_ (by rw [e1]; rfl), .bool _⟩
      rw [e1, e2, equal_succ, Op.equalIn]
      simp only [Sem.run_bind, run_underlying ht, Result.andThen_ok]
      rfl

theorem ne_un {op : UnOp} {t : TypeId} {x : Operand} (hop : o.op = .unOp op t x) {vs : List V} {eff : Eff} (hl : L2 (fun v x => VRel ρ v (a.eval x)) vs [x]) (hn : Kind.ne H (.un op) vs = some eff) :
    NeOk P ρ w ((execOp a.eval o).run P w) eff := by
  obtain ⟨v, rfl, hv⟩ := hl.one
  simp only [Kind.ne, kUn] at hn
  cases hu : unV op v with
  | none => simp [hu] at hn
  | some r =>
    simp [hu] at hn
    subst hn
    unfold unV at hu
    split at hu
    · have e := hv.int_inv
      split at hu <;> cases hu
      · exact ⟨_, by simp [execOp, hop, e, Op.unary, Op.intArith], .int _ _⟩
      · exact ⟨_, by simp [execOp, hop, e, Op.unary, Op.intBits], .int _ _⟩
    · have e := hv.bool_inv
      split at hu <;> cases hu
      exact ⟨_, by simp [execOp, hop, e, Op.unary], .bool _⟩
    · cases hu

theorem ne_cvI {s d : TypeId} {x : Operand} {k j : IntKind} (hop : o.op = .convert s d x) (hs : P.underlying s = some (.int j)) (hd : P.underlying d = some (.int k)) {vs : List V} {eff : Eff} (hl : L2 (fun v x => VRel ρ v (a.eval x)) vs [x]) (hn : Kind.ne H (.cvI k) vs = some eff) :
    NeOk P ρ w ((execOp a.eval o).run P w) eff := by
  obtain ⟨v, rfl, hv⟩ := hl.one
  simp only [Kind.ne, kCvI] at hn
  split at hn
  case h_2 => cases hn
  rename_i q n heq
  simp at heq; subst heq; cases hn
  exact ⟨_, by simp [execOp, hop, convert, run_underlying hs, run_underlying hd, hv.int_inv, Conv.intToInt], .int _ _⟩

theorem ne_ext {i : Nat} {x : Operand} (hop : o.op = .extract x i) {vs : List V} {eff : Eff} (hl : L2 (fun v x => VRel ρ v (a.eval x)) vs [x]) (hn : Kind.ne H (.ext i) vs = some eff) :
    NeOk P ρ w ((execOp a.eval o).run P w) eff := by
  obtain ⟨v, rfl, hv⟩ := hl.one
  simp only [Kind.ne, kExt] at hn
  split at hn
  case h_2 => cases hn
  rename_i ts heq
  simp at heq; subst heq
  cases hi : ts[i]? with
  | none => simp [hi] at hn
  | some r =>
    simp [hi] at hn
    subst hn
    obtain ⟨ts', e, hr⟩ := hv.tuple_inv
    obtain ⟨r', h1, h2⟩ := hr.get hi
    exact ⟨r', by simp [execOp, hop, Instr.extract, e, h1], h2⟩

theorem ne_mkI {t : TypeId} {x : Operand} (hop : o.op = .makeInterface t x) (ht : ∃ d, P.underlying t = some d ∧ ∀ ms, d ≠ .interface ms) {vs : List V} {eff : Eff} (hl : L2 (fun v x => VRel ρ v (a.eval x)) vs [x]) (hn : Kind.ne H (.mkI t) vs = some eff) :
    NeOk P ρ w ((execOp a.eval o).run P w) eff := by
  obtain ⟨v, rfl, hv⟩ := hl.one
  simp only [Kind.ne, kMkI] at hn
  cases hn
  obtain ⟨d, hd, hi⟩ := ht
  refine ⟨.iface t (a.eval x), ?_, .iface hv⟩
  simp only [execOp, hop, Instr.makeInterface, Sem.run_bind, run_underlying hd, Result.andThen_ok]
  cases d <;> first | rfl | exact absurd rfl (hi _)

theorem L2.rels {vs : List V} {l : List Operand} (h : L2 (fun v x => VRel ρ v (a.eval x)) vs l) : VRels ρ vs (l.map a.eval).toArray := by
  refine ⟨?_, ?_⟩
  · simp
    induction h with
    | nil => rfl
    | cons _ _ ih => simp [ih]
  · induction h with
    | nil => intro i v v' h; simp at h
    | cons h1 h2 ih =>
      intro i v v' hv hv'
      cases i with
      | zero => simp at hv hv'; subst hv; subst hv'; exact h1
      | succ i => exact ih i v v' (by simpa using hv) (by simpa using hv')

theorem ne_mkF {f : FuncId} {first captured : Array Operand} (hop : o.op = .makeFunc (.func f) first captured) (hf : first.isEmpty = true) {vs : List V} {eff : Eff} (hl : L2 (fun v x => VRel ρ v (a.eval x)) vs captured.toList) (hn : Kind.ne H (.mkF f) vs = some eff) :
    NeOk P ρ w ((execOp a.eval o).run P w) eff := by
  simp only [Kind.ne, kMkF] at hn
  cases hn
  have hr := hl.rels
  have hf' : first = #[] := by simpa using hf
  subst hf'
  refine ⟨.func (.func f) #[] (captured.map a.eval), by simp [execOp, hop, Instr.makeFunc], .func (by simpa using hr.1) fun i v v' h1 h2 => hr.2 i v v' h1 ?_⟩
  simpa using h2

theorem ne_maxI {c : Call} {x y : Operand} (hop : o.op = .call c) (hc : c.callee = .builtin .max) (ha : c.args.toList = [x, y]) {vs : List V} {eff : Eff} (hl : L2 (fun v x => VRel ρ v (a.eval x)) vs [x, y]) (hn : Kind.ne H .maxI vs = some eff) :
    NeOk P ρ w ((execOp a.eval o).run P w) eff := by
  obtain ⟨v1, v2, rfl, h1, h2⟩ := hl.two
  simp only [Kind.ne, kMaxI] at hn
  split at hn
  case h_2 => cases hn
  rename_i k m k' n heq
  simp at heq; obtain ⟨rfl, rfl⟩ := heq; cases hn
  have ha' : c.args = #[x, y] := by rw [← ha]
  exact ⟨_, by simp [execOp, hop, resolve, hc, invoke, builtin, ha', Builtin.max_, h1.int_inv, h2.int_inv, Builtin.max2], .int _ _⟩

theorem ne_minI {c : Call} {x y : Operand} (hop : o.op = .call c) (hc : c.callee = .builtin .min) (ha : c.args.toList = [x, y]) {vs : List V} {eff : Eff} (hl : L2 (fun v x => VRel ρ v (a.eval x)) vs [x, y]) (hn : Kind.ne H .minI vs = some eff) :
    NeOk P ρ w ((execOp a.eval o).run P w) eff := by
  obtain ⟨v1, v2, rfl, h1, h2⟩ := hl.two
  simp only [Kind.ne, kMinI] at hn
  split at hn
  case h_2 => cases hn
  rename_i k m k' n heq
  simp at heq; obtain ⟨rfl, rfl⟩ := heq; cases hn
  have ha' : c.args = #[x, y] := by rw [← ha]
  exact ⟨_, by simp [execOp, hop, resolve, hc, invoke, builtin, ha', Builtin.min_, h1.int_inv, h2.int_inv, Builtin.min2], .int _ _⟩

end
end Go.Cn
