/- The operations that do not act, second part: arithmetic, comparisons, slicing, tuples, building. -/
import Derived.Test.YtlnpgjfdlefmoaaGreatDoorCnEq
import Derived.Lib.IndexBytes
namespace Go.Cn
set_option linter.unusedVariables false
set_option linter.unusedSimpArgs false
set_option maxHeartbeats 40000

theorem strLt_eq : ∀ (a b : List UInt8), strLt a b = Op.bytesLess a b
  | _, [] => by cases ‹List UInt8› <;> rfl
  | [], _ :: _ => rfl
  | a :: x, b :: y => by simp [strLt, Op.bytesLess, strLt_eq x y]

section
variable {P : Program} {ρ : Ren} {H : Heap} {w : World} {o : Oper} {a : Act} {e : Env}

theorem binV_ok {op : BinOp} {t : TypeId} {x y : V} {x' y' : Value} (hx : VRel ρ x x') (hy : VRel ρ y y') {v : V} (h : binV op x y = some v) (w : World) : ∃ v', (binOp op t x' y').run P w = .ok v' w ∧ VRel ρ v v' := by
  unfold binV at h
  split at h
  · rename_i k m k' n
    rw [hx.int_inv, hy.int_inv]
    split at h
    · split at h
      case isTrue => cases h
      cases h
      rename_i hb
      exact ⟨_, by simp [binOp, Op.shift, hb], .int _ _⟩
    · split at h
      case isTrue => cases h
      cases h
      rename_i hb
      exact ⟨_, by simp [binOp, Op.shift, hb], .int _ _⟩
    · rename_i h1 h2
      split at h
      case isFalse => cases h
      rename_i hk
      subst hk
      have hkk : (binOp op t (.int k m) (.int k n)).run P w = (match op with
          | .add | .sub | .mul => Op.intArith op k m n
          | .quo | .rem => Op.intDiv op k m n
          | .and | .or | .xor | .andNot => Op.intBits op k m n
          | _ => Op.intCmp op m n : Sem Value).run P w := by
        cases op <;> first | exact (h1 rfl).elim | exact (h2 rfl).elim | (simp only [binOp, ne_eq, not_true_eq_false, if_false])
      rw [hkk]
      cases op <;> simp only [intBin] at h
      case shl => cases h
      case shr => cases h
      case quo =>
        split at h
        · cases h
        · cases h; rename_i hb; exact ⟨_, by simp only [Op.intDiv, hb, if_false, Sem.run_pure], .int _ _⟩
      case rem =>
        split at h
        · cases h
        · cases h; rename_i hb; exact ⟨_, by simp only [Op.intDiv, hb, if_false, Sem.run_pure], .int _ _⟩
      all_goals (cases h; first | exact ⟨_, rfl, .int _ _⟩ | exact ⟨_, rfl, .bool _⟩)
  · rename_i s u
    obtain ⟨s', rfl, rfl⟩ := hx.str_inv
    obtain ⟨u', rfl, rfl⟩ := hy.str_inv
    have hss : (binOp op t (.string s') (.string u')).run P w = (Op.stringOp op s' u').run P w := by cases op <;> rfl
    rw [hss]
    cases op <;> simp only [strBin, strLt_eq] at h
    case eql => cases h; exact ⟨_, by simp only [Op.stringOp, ByteArray.toList_eq, Sem.run_pure], .bool _⟩
    case neq => cases h; exact ⟨_, by simp only [Op.stringOp, ByteArray.toList_eq, Sem.run_pure], .bool _⟩
    case lss => cases h; exact ⟨_, by simp only [Op.stringOp, ByteArray.toList_eq, Sem.run_pure], .bool _⟩
    case leq => cases h; exact ⟨_, by simp only [Op.stringOp, ByteArray.toList_eq, Sem.run_pure], .bool _⟩
    case gtr => cases h; exact ⟨_, by simp only [Op.stringOp, ByteArray.toList_eq, Sem.run_pure], .bool _⟩
    case geq => cases h; exact ⟨_, by simp only [Op.stringOp, ByteArray.toList_eq, Sem.run_pure], .bool _⟩
    all_goals first | (cases h; done) | skip
    split at h
    case isFalse => cases h
    rename_i hb
    cases h
    refine ⟨.string (s' ++ u'), ?_, .str (by simp)⟩
    have hb' : ¬ ((s'.size + u'.size : Nat) : Int) > IntKind.i64.max := by
      have e : IntKind.i64.max = 9223372036854775807 := by decide
      rw [e]
      simp only [Array.length_toList] at hb
      have e1 : s'.size = s'.data.size := rfl
      have e2 : u'.size = u'.data.size := rfl
      omega
    simp only [Op.stringOp]
    rw [if_neg hb']
    rfl
  · cases h

theorem ite_both {α : Type} {c : Prop} [Decidable c] {x y r : α} (h1 : x = r) (h2 : y = r) : (if c then x else y) = r := by split <;> assumption

theorem eqGuard_off {op : BinOp} {t : TypeId} {x y : Operand} {v u : Value} (h : (∀ xs ys, v = .agg xs → u = .agg ys → P.eqGuardType P.depth t = false) ∧ (v = .nilIface → u = .nilIface → isNilC y = true)) (w : World) :
    (eqGuard op t x y v u).run P w = .ok () w := by
  unfold eqGuard
  rw [Sem.run_ite]
  refine ite_both rfl ?_
  cases v with
  | nilIface =>
    cases u with
    | nilIface =>
      have := h.2 rfl rfl
      cases y with
      | const c => cases x <;> rfl
      | _ => simp [isNilC] at this
    | _ => rfl
  | agg xs =>
    cases u with
    | agg ys => simp [h.1 xs ys rfl rfl]
    | _ => rfl
  | _ => rfl

theorem eqGuard_other {op : BinOp} {t : TypeId} {x y : Operand} {v u : Value} (h1 : ∀ xs, v ≠ .agg xs) (h2 : v ≠ .nilIface) (w : World) : (eqGuard op t x y v u).run P w = .ok () w :=
  eqGuard_off ⟨fun xs ys e _ => absurd e (h1 xs), fun e _ => absurd e h2⟩ w

theorem binV_guard {op : BinOp} {x y : V} {v : V} (h : binV op x y = some v) : (∃ k n, x = .int k n) ∨ ∃ s, x = .str s := by
  unfold binV at h
  split at h
  · exact .inl ⟨_, _, rfl⟩
  · exact .inr ⟨_, rfl⟩
  · cases h

theorem ne_bin {op : BinOp} {t u : TypeId} {x y : Operand} (hop : o.op = .binOp op t x y u) {vs : List V} {eff : Eff} (hl : L2 (fun v x => VRel ρ v (a.eval x)) vs [x, y]) (hn : Kind.ne H (.bin op) vs = some eff) :
    NeOk P ρ w ((execOp a.eval o).run P w) eff := by
  obtain ⟨v1, v2, rfl, h1, h2⟩ := hl.two
  simp only [Kind.ne, kBin] at hn
  cases hb : binV op v1 v2 with
  | none => simp [hb] at hn
  | some v =>
    simp [hb] at hn
    subst hn
    obtain ⟨v', h3, h4⟩ := binV_ok (P := P) (t := t) h1 h2 hb w
    have hg : (eqGuard op t x y (a.eval x) (a.eval y)).run P w = .ok () w := by
      refine eqGuard_other ?_ ?_ w
      · intro xs e
        rcases binV_guard hb with ⟨k, n, rfl⟩ | ⟨s, rfl⟩
        · rw [h1.int_inv] at e; cases e
        · obtain ⟨t', e', _⟩ := h1.str_inv; rw [e'] at e; cases e
      · intro e
        rcases binV_guard hb with ⟨k, n, rfl⟩ | ⟨s, rfl⟩
        · rw [h1.int_inv] at e; cases e
        · obtain ⟨t', e', _⟩ := h1.str_inv; rw [e'] at e; cases e
    exact ⟨v', by simp only [execOp, hop, Sem.run_bind, hg, Result.andThen_ok, h3, Sem.run_pure], h4⟩

/-- No number and no string. -/
def odd : Value → Bool
  | .int _ _ | .string _ | .float _ _ | .complex _ _ _ => false
  | _ => true

theorem binOp_eql {t : TypeId} {x y : Value} (h : odd x = true) : binOp .eql t x y = (do pure (.bool (← Op.equal t x y))) := by
  cases x <;> first | (simp [odd] at h; done) | (cases y <;> rfl)

theorem binOp_neq {t : TypeId} {x y : Value} (h : odd x = true) : binOp .neq t x y = (do pure (.bool (!(← Op.equal t x y)))) := by
  cases x <;> first | (simp [odd] at h; done) | (cases y <;> rfl)

/-- How '==' and '!=' stand to the run of 'equal'. -/
theorem run_eqlneq {op : BinOp} {neg : Bool} (hop' : (op = .eql ∧ neg = false) ∨ (op = .neq ∧ neg = true)) {t u : TypeId} {x y : Operand} (hop : o.op = .binOp op t x y u) {b : Bool}
    (hg : (eqGuard op t x y (a.eval x) (a.eval y)).run P w = .ok () w) (hq : (Op.equal t (a.eval x) (a.eval y)).run P w = .ok b w)
    (hodd : odd (a.eval x) = true) :
    (execOp a.eval o).run P w = .ok (.value (.bool (xor neg b))) w := by
  have hb : (binOp op t (a.eval x) (a.eval y)).run P w = .ok (.bool (xor neg b)) w := by
    rcases hop' with ⟨rfl, rfl⟩ | ⟨rfl, rfl⟩
    · rw [binOp_eql hodd]; simp only [Sem.run_bind, hq, Result.andThen_ok, Sem.run_pure, Bool.false_xor]
    · rw [binOp_neq hodd]; simp only [Sem.run_bind, hq, Result.andThen_ok, Sem.run_pure, Bool.true_xor]
  simp only [execOp, hop, Sem.run_bind, hg, Result.andThen_ok, hb, Sem.run_pure]

theorem equal_succ (t : TypeId) (x y : Value) : Op.equal t x y = Op.equalIn (9999 + 1) t x y := rfl

theorem ne_eqB {op : BinOp} {neg : Bool} (hop' : (op = .eql ∧ neg = false) ∨ (op = .neq ∧ neg = true)) {t u : TypeId} {x y : Operand} (hop : o.op = .binOp op t x y u) (ht : P.underlying t = some .bool)
    {vs : List V} {eff : Eff} (hl : L2 (fun v x => VRel ρ v (a.eval x)) vs [x, y]) (hn : Kind.ne H (.eqB neg) vs = some eff) :
    NeOk P ρ w ((execOp a.eval o).run P w) eff := by
  obtain ⟨v1, v2, rfl, h1, h2⟩ := hl.two
  simp only [Kind.ne, kEqB] at hn
  split at hn
  case h_2 => cases hn
  rename_i p q heq
  simp at heq; obtain ⟨rfl, rfl⟩ := heq
  cases hn
  have e1 := h1.bool_inv
  have e2 := h2.bool_inv
  refine ⟨_, run_eqlneq hop' hop (b := p == q) (eqGuard_other (by simp [e1]) (by simp [e1]) w) ?_ (by rw [e1]; rfl), .bool _⟩
  rw [e1, e2, equal_succ, Op.equalIn]
  simp only [Sem.run_bind, run_underlying ht, Result.andThen_ok, Sem.run_pure]

theorem ne_eqF {op : BinOp} {neg : Bool} (hop' : (op = .eql ∧ neg = false) ∨ (op = .neq ∧ neg = true)) {t u : TypeId} {x y : Operand} {ks : List LeafK} (hop : o.op = .binOp op t x y u) (hk : flatKey P t = some ks)
    (hag : aggT P t = some true) {vs : List V} {eff : Eff} (hl : L2 (fun v x => VRel ρ v (a.eval x)) vs [x, y]) (hn : Kind.ne H (.eqF neg ks) vs = some eff) :
    NeOk P ρ w ((execOp a.eval o).run P w) eff := by
  obtain ⟨v1, v2, rfl, h1, h2⟩ := hl.two
  simp only [Kind.ne, kEqF] at hn
  split at hn
  case h_2 => cases hn
  rename_i p q heq
  simp at heq; obtain ⟨rfl, rfl⟩ := heq
  cases hc : cellsEq ks p q with
  | none => simp [hc] at hn
  | some r =>
    simp [hc] at hn
    subst hn
    obtain ⟨p', e1, hp, _⟩ := h1.agg_inv
    obtain ⟨q', e2, hq, _⟩ := h2.agg_inv
    have hle := cellsEq_leafs hp.l2 hq.l2 hc
    have hln := leafsEq_len hle
    have heq := equal_ok hk p'.toList q'.toList (.agg p') (.agg q') r w (by simp [seg, hag, hln.1]) (by simp [seg, hag, hln.2]) hle
    refine ⟨_, run_eqlneq hop' hop (b := r) (eqGuard_off ⟨fun xs ys _ _ => ?_, fun e => by rw [e1] at e; cases e⟩ w) (by rw [e1, e2]; exact heq) (by rw [e1]; rfl), .bool _⟩
    unfold flatKey at hk
    split at hk
    case isFalse => cases hk
    unfold flatK at hk
    unfold aggT at hag
    cases hu : P.underlying t with
    | none => simp [hu] at hag
    | some kd =>
      cases kd <;> simp only [hu] at hk hag <;> first
        | (cases hag; done)
        | (split at hk; · rename_i hh; exact hh.2
           cases hk; done)
        | (split at hk; · assumption
           cases hk; done)

theorem equal_ptr_nil {t el : TypeId} (ht : P.underlying t = some (.pointer el)) (p q : Option Addr) (h : p = none ∨ q = none) (w : World) : (Op.equal t (.pointer p) (.pointer q)).run P w = .ok (p.isNone && q.isNone) w := by
  rw [equal_succ, Op.equalIn]
  simp only [Sem.run_bind, run_underlying ht, Result.andThen_ok]
  cases p <;> cases q <;> first
    | rfl
    | (rcases h with h | h <;> cases h)

theorem PRel.isNone {p : Option (Nat × Nat)} {q : Option Addr} (h : PRel ρ p q) : q.isNone = p.isNone := by cases h <;> rfl
theorem SRel.isNone {p : Option (Nat × Nat)} {len cap es : Nat} {full : Bool} {q : Option Addr} (h : SRel ρ p len full es q cap) : q.isNone = p.isNone := by cases h <;> rfl

theorem ne_eqN {op : BinOp} {neg : Bool} (hop' : (op = .eql ∧ neg = false) ∨ (op = .neq ∧ neg = true)) {t u : TypeId} {x y : Operand} (hop : o.op = .binOp op t x y u) (hy : isNilC y = true)
    (ht : (∃ el, P.underlying t = some (.pointer el)) ∧ (∃ c, y = .const (.pointer c)) ∨ (∃ el, P.underlying t = some (.slice el)) ∧ (∃ c n m, y = .const (.slice c n m)) ∨ (∃ ms, P.underlying t = some (.interface ms)) ∧ y = .const .nilIface)
    {vs : List V} {eff : Eff} (hl : L2 (fun v x => VRel ρ v (a.eval x)) vs [x, y]) (hn : Kind.ne H (.eqN neg) vs = some eff) :
    NeOk P ρ w ((execOp a.eval o).run P w) eff := by
  obtain ⟨v1, v2, rfl, h1, h2⟩ := hl.two
  simp only [Kind.ne, kEqN] at hn
  rcases ht with ⟨⟨el, ht⟩, c, rfl⟩ | ⟨⟨el, ht⟩, c, n, m, rfl⟩ | ⟨⟨ms, ht⟩, rfl⟩
  · have hc : c = none := by cases c <;> simp [isNilC] at hy ⊢
    subst hc
    have e2 : a.eval (.const (.pointer none)) = .pointer none := rfl
    rw [e2] at h2
    cases v2 <;> cases h2
    rename_i hp
    cases hp
    split at hn <;> first | (cases hn; done) | skip
    · rename_i p heq
      simp at heq; subst heq; cases hn
      obtain ⟨q, e1, hq⟩ := h1.ptr_inv
      refine ⟨_, run_eqlneq hop' hop (b := q.isNone) (eqGuard_other (by simp [e1]) (by simp [e1]) w) ?_ (by rw [e1]; rfl), ?_⟩
      · rw [e1, e2, equal_ptr_nil ht q none (.inr rfl)]; simp
      · rw [hq.isNone]; exact .bool _
    all_goals (rename_i heq; simp at heq)
  · have hc : c = none ∧ n = 0 ∧ m = 0 := by
      unfold isNilC at hy
      split at hy <;> simp_all
    obtain ⟨rfl, rfl, rfl⟩ := hc
    have e2 : a.eval (.const (.slice none 0 0)) = .slice none 0 0 := rfl
    rw [e2] at h2
    cases v2 <;> cases h2
    rename_i hp
    cases hp
    split at hn <;> first | (cases hn; done) | skip
    all_goals (rename_i heq; simp at heq)
    obtain ⟨rfl, _⟩ := heq
    cases hn
    obtain ⟨q, cap, e1, hq⟩ := h1.slice_inv
    refine ⟨_, run_eqlneq hop' hop (b := q.isNone) (eqGuard_other (by simp [e1]) (by simp [e1]) w) ?_ (by rw [e1]; rfl), ?_⟩
    · rw [e1, e2, equal_succ, Op.equalIn]
      simp only [Sem.run_bind, run_underlying ht, Result.andThen_ok]
      cases q <;> rfl
    · rw [hq.isNone]; exact .bool _
  · have e2 : a.eval (.const .nilIface) = .nilIface := rfl
    rw [e2] at h2
    cases v2 <;> cases h2
    split at hn <;> first | (cases hn; done) | skip
    all_goals (rename_i heq; simp at heq)
    · subst heq; cases hn
      have e1 : a.eval x = .nilIface := by
        generalize a.eval x = z at h1
        cases h1; rfl
      refine ⟨_, run_eqlneq hop' hop (b := true) (eqGuard_off ⟨fun xs ys e => (by rw [e1] at e; cases e), fun _ _ => rfl⟩ w) ?_ (by rw [e1]; rfl), .bool _⟩
      rw [e1, e2, equal_succ, Op.equalIn]
      simp only [Sem.run_bind, run_underlying ht, Result.andThen_ok]
      rfl
    · subst heq; cases hn
      obtain ⟨v', e1, _⟩ := h1.iface_inv
      refine ⟨_, run_eqlneq hop' hop (b := false) (eqGuard_other (by simp [e1]) (by simp [e1]) w) ?_ (by rw [e1]; rfl), .bool _⟩
      rw [e1, e2, equal_succ, Op.equalIn]
      simp only [Sem.run_bind, run_underlying ht, Result.andThen_ok]
      rfl

theorem ne_un {op : UnOp} {t : TypeId} {x : Operand} (hop : o.op = .unOp op t x) {vs : List V} {eff : Eff} (hl : L2 (fun v x => VRel ρ v (a.eval x)) vs [x]) (hn : Kind.ne H (.un op) vs = some eff) :
    NeOk P ρ w ((execOp a.eval o).run P w) eff := by
  obtain ⟨v, rfl, hv⟩ := hl.one
  simp only [Kind.ne, kUn] at hn
  cases hu : unV op v with
  | none => simp [hu] at hn
  | some r =>
    simp [hu] at hn
    subst hn
    unfold unV at hu
    split at hu
    · have e := hv.int_inv
      split at hu <;> cases hu
      · exact ⟨_, by simp [execOp, hop, e, Op.unary, Op.intArith], .int _ _⟩
      · exact ⟨_, by simp [execOp, hop, e, Op.unary, Op.intBits], .int _ _⟩
    · have e := hv.bool_inv
      split at hu <;> cases hu
      exact ⟨_, by simp [execOp, hop, e, Op.unary], .bool _⟩
    · cases hu

theorem ne_cvI {s d : TypeId} {x : Operand} {k j : IntKind} (hop : o.op = .convert s d x) (hs : P.underlying s = some (.int j)) (hd : P.underlying d = some (.int k)) {vs : List V} {eff : Eff} (hl : L2 (fun v x => VRel ρ v (a.eval x)) vs [x]) (hn : Kind.ne H (.cvI k) vs = some eff) :
    NeOk P ρ w ((execOp a.eval o).run P w) eff := by
  obtain ⟨v, rfl, hv⟩ := hl.one
  simp only [Kind.ne, kCvI] at hn
  split at hn
  case h_2 => cases hn
  rename_i q n heq
  simp at heq; subst heq; cases hn
  exact ⟨_, by simp [execOp, hop, convert, run_underlying hs, run_underlying hd, hv.int_inv, Conv.intToInt], .int _ _⟩

theorem ne_ext {i : Nat} {x : Operand} (hop : o.op = .extract x i) {vs : List V} {eff : Eff} (hl : L2 (fun v x => VRel ρ v (a.eval x)) vs [x]) (hn : Kind.ne H (.ext i) vs = some eff) :
    NeOk P ρ w ((execOp a.eval o).run P w) eff := by
  obtain ⟨v, rfl, hv⟩ := hl.one
  simp only [Kind.ne, kExt] at hn
  split at hn
  case h_2 => cases hn
  rename_i ts heq
  simp at heq; subst heq
  cases hi : ts[i]? with
  | none => simp [hi] at hn
  | some r =>
    simp [hi] at hn
    subst hn
    obtain ⟨ts', e, hr⟩ := hv.tuple_inv
    obtain ⟨r', h1, h2⟩ := hr.get hi
    exact ⟨r', by simp [execOp, hop, Instr.extract, e, h1], h2⟩

theorem ne_mkI {t : TypeId} {x : Operand} (hop : o.op = .makeInterface t x) (ht : ∃ d, P.underlying t = some d ∧ ∀ ms, d ≠ .interface ms) {vs : List V} {eff : Eff} (hl : L2 (fun v x => VRel ρ v (a.eval x)) vs [x]) (hn : Kind.ne H (.mkI t) vs = some eff) :
    NeOk P ρ w ((execOp a.eval o).run P w) eff := by
  obtain ⟨v, rfl, hv⟩ := hl.one
  simp only [Kind.ne, kMkI] at hn
  cases hn
  obtain ⟨d, hd, hi⟩ := ht
  refine ⟨.iface t (a.eval x), ?_, .iface hv⟩
  simp only [execOp, hop, Instr.makeInterface, Sem.run_bind, run_underlying hd, Result.andThen_ok]
  cases d <;> first | rfl | exact absurd rfl (hi _)

theorem L2.rels {vs : List V} {l : List Operand} (h : L2 (fun v x => VRel ρ v (a.eval x)) vs l) : VRels ρ vs (l.map a.eval).toArray := by
  refine ⟨?_, ?_⟩
  · simp
    induction h with
    | nil => rfl
    | cons _ _ ih => simp [ih]
  · induction h with
    | nil => intro i v v' h; simp at h
    | cons h1 h2 ih =>
      intro i v v' hv hv'
      cases i with
      | zero => simp at hv hv'; subst hv; subst hv'; exact h1
      | succ i => exact ih i v v' (by simpa using hv) (by simpa using hv')

theorem ne_mkF {f : FuncId} {first captured : Array Operand} (hop : o.op = .makeFunc (.func f) first captured) (hf : first.isEmpty = true) {vs : List V} {eff : Eff} (hl : L2 (fun v x => VRel ρ v (a.eval x)) vs captured.toList) (hn : Kind.ne H (.mkF f) vs = some eff) :
    NeOk P ρ w ((execOp a.eval o).run P w) eff := by
  simp only [Kind.ne, kMkF] at hn
  cases hn
  have hr := hl.rels
  have hf' : first = #[] := by simpa using hf
  subst hf'
  refine ⟨.func (.func f) #[] (captured.map a.eval), by simp [execOp, hop, Instr.makeFunc], .func (by simpa using hr.1) fun i v v' h1 h2 => hr.2 i v v' h1 ?_⟩
  simpa using h2

theorem ne_maxI {c : Call} {x y : Operand} (hop : o.op = .call c) (hc : c.callee = .builtin .max) (ha : c.args.toList = [x, y]) {vs : List V} {eff : Eff} (hl : L2 (fun v x => VRel ρ v (a.eval x)) vs [x, y]) (hn : Kind.ne H .maxI vs = some eff) :
    NeOk P ρ w ((execOp a.eval o).run P w) eff := by
  obtain ⟨v1, v2, rfl, h1, h2⟩ := hl.two
  simp only [Kind.ne, kMaxI] at hn
  split at hn
  case h_2 => cases hn
  rename_i k m k' n heq
  simp at heq; obtain ⟨rfl, rfl⟩ := heq; cases hn
  have ha' : c.args = #[x, y] := by rw [← ha]
  exact ⟨_, by simp [execOp, hop, resolve, hc, invoke, builtin, ha', Builtin.max_, h1.int_inv, h2.int_inv, Builtin.max2], .int _ _⟩

theorem ne_minI {c : Call} {x y : Operand} (hop : o.op = .call c) (hc : c.callee = .builtin .min) (ha : c.args.toList = [x, y]) {vs : List V} {eff : Eff} (hl : L2 (fun v x => VRel ρ v (a.eval x)) vs [x, y]) (hn : Kind.ne H .minI vs = some eff) :
    NeOk P ρ w ((execOp a.eval o).run P w) eff := by
  obtain ⟨v1, v2, rfl, h1, h2⟩ := hl.two
  simp only [Kind.ne, kMinI] at hn
  split at hn
  case h_2 => cases hn
  rename_i k m k' n heq
  simp at heq; obtain ⟨rfl, rfl⟩ := heq; cases hn
  have ha' : c.args = #[x, y] := by rw [← ha]
  exact ⟨_, by simp [execOp, hop, resolve, hc, invoke, builtin, ha', Builtin.min_, h1.int_inv, h2.int_inv, Builtin.min2], .int _ _⟩

end
end Go.Cn

/- The operations that do not act, third part: lengths, slicing, building, reading, new blocks. -/
namespace Go.Cn
set_option linter.unusedVariables false
set_option linter.unusedSimpArgs false
set_option maxHeartbeats 100000

section
variable {P : Program} {ρ : Ren} {H : Heap} {w : World} {o : Oper} {a : Act} {e : Env}

theorem size_eq {t : ByteArray} : t.size = t.data.toList.length := by rw [Array.length_toList]; rfl

theorem ne_lenS {c : Call} {t el : TypeId} {x : Operand} (hop : o.op = .call c) (hc : c.callee = .builtin .len) (ha : c.args.toList = [x]) (hat : c.argTypes.toList = [t]) (ht : P.underlying t = some (.slice el))
    {vs : List V} {eff : Eff} (hl : L2 (fun v x => VRel ρ v (a.eval x)) vs [x]) (hn : Kind.ne H .lenS vs = some eff) :
    NeOk P ρ w ((execOp a.eval o).run P w) eff := by
  obtain ⟨v, rfl, hv⟩ := hl.one
  have ha' : c.args = #[x] := by rw [← ha]
  have hat' : c.argTypes = #[t] := by rw [← hat]
  simp only [Kind.ne, kLenS] at hn
  split at hn
  case h_2 => cases hn
  rename_i p n full es0 heq
  simp at heq; subst heq; cases hn
  obtain ⟨q, cap, e1, _⟩ := hv.slice_inv
  exact ⟨_, by simp [execOp, hop, resolve, hc, invoke, builtin, ha', hat', Builtin.len_, e1, run_underlying ht, goInt], .int _ _⟩

theorem ne_capS {c : Call} {t el : TypeId} {x : Operand} (hop : o.op = .call c) (hc : c.callee = .builtin .cap) (ha : c.args.toList = [x]) (hat : c.argTypes.toList = [t]) (ht : P.underlying t = some (.slice el))
    {vs : List V} {eff : Eff} (hl : L2 (fun v x => VRel ρ v (a.eval x)) vs [x]) (hn : Kind.ne H .capS vs = some eff) :
    NeOk P ρ w ((execOp a.eval o).run P w) eff := by
  obtain ⟨v, rfl, hv⟩ := hl.one
  have ha' : c.args = #[x] := by rw [← ha]
  have hat' : c.argTypes = #[t] := by rw [← hat]
  simp only [Kind.ne, kCapS] at hn
  split at hn
  case h_3 => cases hn
  · rename_i n full es0 heq
    simp at heq; subst heq; cases hn
    obtain ⟨q, cap, e1, hs⟩ := hv.slice_inv
    cases hs
    exact ⟨_, by simp [execOp, hop, resolve, hc, invoke, builtin, ha', hat', Builtin.cap_, e1, run_underlying ht, goInt], .int _ _⟩
  · rename_i p n es0 heq
    simp at heq; subst heq; cases hn
    obtain ⟨q, cap, e1, hs⟩ := hv.slice_inv
    have hcap : cap = n := by
      cases hs with
      | dead a h hl hf => exact hf rfl
      | live h hl hf h1 h2 => exact hf rfl
    subst hcap
    exact ⟨_, by simp [execOp, hop, resolve, hc, invoke, builtin, ha', hat', Builtin.cap_, e1, run_underlying ht, goInt], .int _ _⟩

theorem ne_lenT {c : Call} {t : TypeId} {x : Operand} (hop : o.op = .call c) (hc : c.callee = .builtin .len) (ha : c.args.toList = [x]) (hat : c.argTypes.toList = [t]) (ht : P.underlying t = some .string)
    {vs : List V} {eff : Eff} (hl : L2 (fun v x => VRel ρ v (a.eval x)) vs [x]) (hn : Kind.ne H .lenT vs = some eff) :
    NeOk P ρ w ((execOp a.eval o).run P w) eff := by
  obtain ⟨v, rfl, hv⟩ := hl.one
  have ha' : c.args = #[x] := by rw [← ha]
  have hat' : c.argTypes = #[t] := by rw [← hat]
  simp only [Kind.ne, kLenT] at hn
  split at hn
  case h_2 => cases hn
  rename_i s heq
  simp at heq; subst heq; cases hn
  obtain ⟨u, e1, rfl⟩ := hv.str_inv
  exact ⟨.int .i64 u.size, by simp [execOp, hop, resolve, hc, invoke, builtin, ha', hat', Builtin.len_, e1, run_underlying ht, goInt], by rw [size_eq]; exact .int _ _⟩

theorem ne_lenK {c : Call} {t el : TypeId} {x : Operand} {n : Nat} (hop : o.op = .call c) (hc : c.callee = .builtin .len) (ha : c.args.toList = [x]) (hat : c.argTypes.toList = [t]) (ht : P.underlying t = some (.array n el))
    {vs : List V} {eff : Eff} (hl : L2 (fun v x => VRel ρ v (a.eval x)) vs [x]) (hn : Kind.ne H (.lenK n) vs = some eff) :
    NeOk P ρ w ((execOp a.eval o).run P w) eff := by
  obtain ⟨v, rfl, hv⟩ := hl.one
  have ha' : c.args = #[x] := by rw [← ha]
  have hat' : c.argTypes = #[t] := by rw [← hat]
  simp only [Kind.ne, kLenK] at hn
  cases hn
  exact ⟨_, by simp [execOp, hop, resolve, hc, invoke, builtin, ha', hat', Builtin.len_, run_underlying ht, goInt], .int _ _⟩

theorem bound_ok {x : Value} {i : Int} (hx : x = .int .i64 i) (y : Nat) (code : BoundsCode) (h : 0 ≤ i ∧ i ≤ y) (w : World) : (Instr.sliceBound x y code).run P w = .ok i.toNat w := by
  subst hx
  simp [Instr.sliceBound, asIntOf, h.1, h.2]

theorem bounds_ok {isSlice : Bool} {lo hi : Option Operand} {len most cap : Nat} (hm : most ≤ cap) (hlm : len ≤ cap) {vs : List V} {x y : Nat} (hl : L2 (fun v x => VRel ρ v (a.eval x)) vs (lo.toList ++ hi.toList)) (h : bounds lo.isSome hi.isSome len most vs = some (x, y)) (w : World) :
    (Instr.sliceBounds isSlice len cap (lo.map a.eval) (hi.map a.eval) none).run P w = .ok (x, y, cap) w ∧ x ≤ y ∧ (y ≤ most ∨ y = len) := by
  cases lo with
  | none =>
    cases hi with
    | none =>
      obtain rfl := hl.nil_inv
      simp [bounds] at h
      obtain ⟨rfl, rfl⟩ := h
      exact ⟨by simp [Instr.sliceBounds], by omega, .inr rfl⟩
    | some hi =>
      obtain ⟨v, rfl, hv⟩ := hl.one
      simp only [bounds, Option.isSome] at h
      split at h
      all_goals first | (rename_i h1 _ _; cases h1; done) | (rename_i h1 h2 _; cases h2; done) | skip
      all_goals first | (cases h; done) | skip
      rename_i b heq
      simp at heq; subst heq
      split at h
      case isFalse => cases h
      rename_i hb
      cases h
      refine ⟨?_, by omega, .inl (by omega)⟩
      have := bound_ok (P := P) hv.int_inv cap (if isSlice then .sliceAcap else .sliceAlen) ⟨hb.1, by omega⟩ w
      simp [Instr.sliceBounds, this]
  | some lo =>
    cases hi with
    | none =>
      obtain ⟨v, rfl, hv⟩ := hl.one
      simp only [bounds, Option.isSome] at h
      split at h
      all_goals first | (rename_i h1 _ _; cases h1; done) | (rename_i h1 h2 _; cases h2; done) | skip
      all_goals first | (cases h; done) | skip
      rename_i b heq
      simp at heq; subst heq
      split at h
      case isFalse => cases h
      rename_i hb
      cases h
      refine ⟨?_, by omega, .inr rfl⟩
      have := bound_ok (P := P) hv.int_inv len .sliceB ⟨hb.1, by omega⟩ w
      simp [Instr.sliceBounds, this]
    | some hi =>
      obtain ⟨v, u, rfl, hv, hu⟩ := hl.two
      simp only [bounds, Option.isSome] at h
      split at h
      all_goals first | (rename_i h1 _ _; cases h1; done) | (rename_i h1 h2 _; cases h2; done) | skip
      all_goals first | (cases h; done) | skip
      rename_i b c _ _ heq
      simp at heq; obtain ⟨rfl, rfl⟩ := heq
      split at h
      case isFalse => cases h
      rename_i hb
      cases h
      refine ⟨?_, by omega, .inl (by omega)⟩
      have h1 := bound_ok (P := P) hu.int_inv cap (if isSlice then .sliceAcap else .sliceAlen) ⟨hb.1, by omega⟩ w
      have h2 := bound_ok (P := P) hv.int_inv _ .sliceB ⟨hb.2.2.1, by rw [Int.toNat_of_nonneg hb.1]; exact hb.2.2.2⟩ w
      simp [Instr.sliceBounds, h1, h2]

theorem SRel.le {p : Option (Nat × Nat)} {len cap es : Nat} {full : Bool} {q : Option Addr} (h : SRel ρ p len full es q cap) : len ≤ cap := by
  cases h with
  | nil => exact Nat.le_refl _
  | dead a h h1 h2 => exact h1
  | live h h1 h2 h3 h4 => exact h1

theorem SRel.cap {p : Option (Nat × Nat)} {len cap es : Nat} {q : Option Addr} (h : SRel ρ p len true es q cap) : cap = len := by
  cases h with
  | nil => rfl
  | dead a h h1 h2 => exact h2 rfl
  | live h h1 h2 h3 h4 => exact h2 rfl

/-- A slice of a slice. -/
theorem SRel.sub {p : Option (Nat × Nat)} {len cap x y m es s : Nat} {full : Bool} {q : Option Addr} (h : SRel ρ p len full es q cap) (hxy : x ≤ y) (hy : y ≤ len) (hm : y ≤ m) (hmc : m ≤ cap) (f' : Bool) (hf : f' = true → m = y)
    (hs : es = s ∨ p = none) :
    SRel ρ (p.map fun (id, o) => (id, o + x * s)) (y - x) f' es (if m = x then q else q.map (·.add (x * s))) (m - x) := by
  cases h with
  | nil => obtain rfl : m = 0 := by omega
           obtain rfl : x = 0 := by omega
           obtain rfl : y = 0 := by omega
           exact .nil
  | dead a hd h1 h2 =>
    rename_i id off
    have hd' : ∀ b : Addr, SRel ρ (some (id, off + x * s)) (y - x) f' es (some b) (m - x) := fun b => .dead b hd (by omega) (fun e => by rw [hf e])
    simp only [Option.map_some]
    split
    · exact hd' _
    · exact hd' _
  | live hl h1 h2 h3 h4 =>
    rename_i id off ro b o n off'
    obtain rfl : es = s := hs.resolve_right (by simp)
    simp only [Option.map_some]
    split
    · rename_i hmx
      subst hmx
      refine .live hl (by omega) (fun e => by rw [hf e]) (fun e => by omega) ?_
      simp only [Nat.sub_self, Nat.zero_mul]
      omega
    · rename_i hmx
      rw [add_at]
      refine .live hl (by omega) (fun e => by rw [hf e]) (fun e => ?_) ?_
      · have := h3 (by omega); omega
      · have : (m - x) * es + x * es = m * es := by rw [← Nat.add_mul]; congr 1; omega
        have : m * es ≤ cap * es := Nat.mul_le_mul_right _ hmc
        omega

theorem ne_slS {t el : TypeId} {x : Operand} {lo hi : Option Operand} {s : Nat} (hop : o.op = .slice t x lo hi none) (ht : P.underlying t = some (.slice el)) (hz : szT P el = some s)
    {vs : List V} {eff : Eff} (hl : L2 (fun v x => VRel ρ v (a.eval x)) vs (x :: (lo.toList ++ hi.toList))) (hn : Kind.ne H (.slS s lo.isSome hi.isSome false) vs = some eff) :
    NeOk P ρ w ((execOp a.eval o).run P w) eff := by
  obtain ⟨v, us, rfl, hv, hu⟩ := hl.cons_inv
  simp only [Kind.ne, Bool.false_eq_true, if_false, kSlS] at hn
  split at hn
  case h_2 => cases hn
  rename_i p len full es l heq
  simp at heq; obtain ⟨rfl, rfl⟩ := heq
  split at hn
  case isFalse => cases hn
  rename_i hes
  cases hb : bounds lo.isSome hi.isSome len len us with
  | none => simp [hb] at hn
  | some xy =>
    obtain ⟨x1, y1⟩ := xy
    simp [hb] at hn
    subst hn
    obtain ⟨q, cap, e1, hq⟩ := hv.slice_inv
    obtain ⟨h1, h2, h3⟩ := bounds_ok (P := P) (isSlice := true) hq.le hq.le hu hb w
    have hy : y1 ≤ len := by omega
    refine ⟨.slice (if cap = x1 then q else q.map (·.add (x1 * s))) (y1 - x1) (cap - x1), ?_, .slice (hq.sub h2 hy (Nat.le_trans hy hq.le) (Nat.le_refl _) _ ?_ hes)⟩
    · simp only [execOp, hop, Instr.sliceAt, Option.map_none, Sem.run_bind, run_underlying ht, Result.andThen_ok, Instr.slice, e1, h1, run_szT hz, Sem.run_pure]
    · intro hf
      simp at hf
      obtain ⟨rfl, rfl⟩ := hf
      exact hq.cap

theorem ne_sl3 {t el : TypeId} {x lo hi mx : Operand} {s : Nat} (hop : o.op = .slice t x (some lo) (some hi) (some mx)) (ht : P.underlying t = some (.slice el)) (hz : szT P el = some s)
    {vs : List V} {eff : Eff} (hl : L2 (fun v x => VRel ρ v (a.eval x)) vs [x, lo, hi, mx]) (hn : Kind.ne H (.slS s true true true) vs = some eff) :
    NeOk P ρ w ((execOp a.eval o).run P w) eff := by
  obtain ⟨v, us, rfl, hv, hu⟩ := hl.cons_inv
  obtain ⟨u1, u2, u3, rfl, hu1, hu2, hu3⟩ := hu.three
  simp only [Kind.ne, if_true, kSl3] at hn
  split at hn
  case h_2 => cases hn
  rename_i p len full es n1 n2 n3 heq
  simp at heq; obtain ⟨rfl, rfl, rfl, rfl⟩ := heq
  split at hn
  case isFalse => cases hn
  rename_i hb
  obtain ⟨b1, b2, b3, b4, hes⟩ := hb
  cases hn
  obtain ⟨q, cap, e1, hq⟩ := hv.slice_inv
  have hle := hq.le
  have c1 := bound_ok (P := P) hu3.int_inv cap .slice3Acap ⟨by omega, by omega⟩ w
  have c2 := bound_ok (P := P) hu2.int_inv n3.toNat .slice3B ⟨by omega, by omega⟩ w
  have c3 := bound_ok (P := P) hu1.int_inv n2.toNat .slice3C ⟨by omega, by omega⟩ w
  have hfl : (n2 == n3) = true → n3.toNat = n2.toNat := by
    intro h
    have : n2 = n3 := by simpa using h
    rw [this]
  refine ⟨.slice (if n3.toNat = n1.toNat then q else q.map (·.add (n1.toNat * s))) (n2.toNat - n1.toNat) (n3.toNat - n1.toNat), ?_, .slice (hq.sub (by omega) (by omega) (by omega) (by omega) _ hfl hes)⟩
  simp [execOp, hop, Instr.sliceAt, run_underlying ht, Instr.slice, e1, Instr.sliceBounds, c1, c2, c3, run_szT hz]

theorem extract_list (t : ByteArray) (x y : Nat) : (t.extract x y).data.toList = (t.data.toList.drop x).take (y - x) := by
  rw [ByteArray.data_extract, Array.toList_extract]

theorem ne_slStr {t : TypeId} {x : Operand} {lo hi : Option Operand} (hop : o.op = .slice t x lo hi none) (ht : P.underlying t = some .string)
    {vs : List V} {eff : Eff} (hl : L2 (fun v x => VRel ρ v (a.eval x)) vs (x :: (lo.toList ++ hi.toList))) (hn : Kind.ne H (.slStr lo.isSome hi.isSome) vs = some eff) :
    NeOk P ρ w ((execOp a.eval o).run P w) eff := by
  obtain ⟨v, us, rfl, hv, hu⟩ := hl.cons_inv
  simp only [Kind.ne, kSlStr] at hn
  split at hn
  case h_2 => cases hn
  rename_i str l heq
  simp at heq; obtain ⟨rfl, rfl⟩ := heq
  cases hb : bounds lo.isSome hi.isSome str.length str.length us with
  | none => simp [hb] at hn
  | some xy =>
    obtain ⟨x1, y1⟩ := xy
    simp [hb] at hn
    subst hn
    obtain ⟨u, e1, rfl⟩ := hv.str_inv
    rw [← size_eq] at hb
    obtain ⟨h1, h2, h3⟩ := bounds_ok (P := P) (isSlice := false) (Nat.le_refl _) (Nat.le_refl _) hu hb w
    refine ⟨.string (u.extract x1 y1), ?_, .str (extract_list _ _ _)⟩
    simp [execOp, hop, Instr.sliceAt, run_underlying ht, Instr.slice, e1, h1]

/-! ### Building -/
theorem wr_length : ∀ (cs : List V) (n : Nat) (vs : List V), n + vs.length ≤ cs.length → (wr cs n vs).length = cs.length
  | cs, 0, [], _ => by cases cs <;> simp [wr]
  | [], 0, v :: vs, h => by simp at h
  | [], n + 1, vs, h => by simp at h
  | c :: cs, 0, v :: vs, h => by simp [wr, wr_length cs 0 vs (by simp at h; omega)]
  | c :: cs, n + 1, vs, h => by simp [wr, wr_length cs n vs (by simp at h; omega)]

theorem wr_get : ∀ (cs : List V) (n : Nat) (vs : List V) (i : Nat), n + vs.length ≤ cs.length → (wr cs n vs)[i]? = if n ≤ i ∧ i < n + vs.length then vs[i - n]? else cs[i]?
  | cs, 0, [], i, _ => by cases cs <;> simp [wr]
  | [], 0, v :: vs, i, h => by simp at h
  | [], n + 1, vs, i, h => by simp at h
  | c :: cs, 0, v :: vs, i, h => by
    cases i with
    | zero => simp [wr]
    | succ i => simp [wr, wr_get cs 0 vs i (by simp at h; omega)]
  | c :: cs, n + 1, vs, i, h => by
    cases i with
    | zero => simp [wr]
    | succ i =>
      simp only [wr, List.getElem?_cons_succ, wr_get cs n vs i (by simp at h; omega)]
      by_cases hc : n ≤ i ∧ i < n + vs.length
      · rw [if_pos hc, if_pos (by omega)]; congr 1; omega
      · rw [if_neg hc, if_neg (by omega)]

theorem wr_cells {cs vs : List V} {n : Nat} (h : n + vs.length ≤ cs.length) (h1 : ∀ v ∈ cs, v.isCell = true) (h2 : ∀ v ∈ vs, v.isCell = true) : ∀ v ∈ wr cs n vs, v.isCell = true := by
  intro v hv
  obtain ⟨i, hi, rfl⟩ := List.mem_iff_getElem.1 hv
  have := wr_get cs n vs i h
  rw [List.getElem?_eq_getElem hi] at this
  split at this
  · exact h2 _ (List.mem_of_getElem? this.symm)
  · exact h1 _ (List.mem_of_getElem? this.symm)

theorem wr_cons : ∀ (z : List V) (n : Nat) (v : V) (vs : List V), n < z.length → wr z n (v :: vs) = wr (z.set n v) (n + 1) vs
  | [], n, v, vs, h => by simp at h
  | c :: cs, 0, v, vs, h => by simp [wr]
  | c :: cs, n + 1, v, vs, h => by simp only [wr, List.set_cons_succ]; rw [wr_cons cs n v vs (by simpa using h)]

theorem VRels.set {z : List V} {z' : Array Value} {v : V} {v' : Value} (h : VRels ρ z z') (hv : VRel ρ v v') (i : Nat) : VRels ρ (z.set i v) (z'.setIfInBounds i v') := by
  refine ⟨by simp [h.1], fun j u u' hu hu' => ?_⟩
  rw [List.getElem?_set] at hu
  rw [Array.getElem?_setIfInBounds] at hu'
  by_cases e : i = j
  · subst e
    simp only [if_true] at hu hu'
    have := h.1
    split at hu <;> split at hu' <;> simp_all
  · rw [if_neg e] at hu hu'
    exact h.2 j u u' hu hu'

/-- The model's way of laying a part. -/
theorem lay_rel : ∀ {vs : List V} {l : List Value} (hl : L2 (VRel ρ) vs l) {z : List V} {z' : Array Value} (off k : Nat), VRels ρ z z' → off + k + vs.length ≤ z.length →
    VRels ρ (wr z (off + k) vs) ((l.zipIdx k).foldl (fun cs (c, j) => cs.setIfInBounds (off + j) c) z')
  | [], l, hl, z, z', off, k, hz, hb => by
    cases hl
    have : wr z (off + k) [] = z := by
      apply List.ext_getElem?
      intro i
      rw [wr_get z (off + k) [] i (by simpa using hb), if_neg (by simp)]
    rw [this]
    exact hz
  | v :: vs, l, hl, z, z', off, k, hz, hb => by
    obtain _ | ⟨h1, h2⟩ := hl
    simp only [List.length_cons] at hb
    rw [wr_cons z (off + k) v vs (by omega)]
    simp only [List.zipIdx_cons, List.foldl_cons]
    exact lay_rel h2 off (k + 1) (hz.set h1 (off + k)) (by simp; omega)

theorem fill_ok {place : Nat → Option (Nat × Nat)} : ∀ {parts : List (Nat × Operand)} {ps : List (Nat × Nat)} {ys : List Opd} {vs : List V} {z : List V} {z' : Array Value} {cs : List V},
    partsOf place parts = some (ps, ys) → ERel ρ e a → evs e ys = some vs → VRels ρ z z' → (∀ v ∈ z, v.isCell = true) → fillV z ps vs = some cs →
    ∃ cs', Instr.fill place z' (parts.map fun (i, x) => (i, a.eval x)) = some cs' ∧ VRels ρ cs cs' ∧ (∀ v ∈ cs, v.isCell = true) ∧ cs.length = z.length
  | [], ps, ys, vs, z, z', cs, hp, he, hv, hz, hc, hf => by
    simp [partsOf] at hp
    obtain ⟨rfl, rfl⟩ := hp
    simp [evs] at hv
    subst hv
    simp [fillV] at hf
    subst hf
    exact ⟨z', rfl, hz, hc, rfl⟩
  | (i, x) :: r, ps, ys, vs, z, z', cs, hp, he, hv, hz, hc, hf => by
    unfold partsOf at hp
    split at hp
    case h_2 => cases hp
    rename_i p y ps' ys' e1 e2 e3
    cases hp
    unfold evs at hv
    split at hv
    case h_2 => cases hv
    rename_i v vs' e4 e5
    cases hv
    obtain ⟨off, sz⟩ := p
    unfold fillV at hf
    split at hf
    case isFalse => cases hf
    rename_i hb
    obtain ⟨hb1, hb2, hb3⟩ := hb
    have hr := opd_rel he e2 e4
    have hcell : ∀ u ∈ v.cells, u.isCell = true := by simpa using hb3
    have hcr := cells_rel hr hcell
    have hlen : off + 0 + v.cells.length ≤ z.length := by omega
    have hnew := lay_rel hcr.l2 off 0 hz hlen
    obtain ⟨cs', h1, h2, h3, h4⟩ := fill_ok e3 he e5 hnew (wr_cells hlen hc hcell) hf
    refine ⟨cs', ?_, h2, h3, by rw [h4, wr_length _ _ _ hlen]⟩
    simp only [List.map_cons, Instr.fill, e1]
    have d1 := hcr.1
    have d2 := hz.1
    rw [if_neg]
    · rw [← Array.foldl_toList, Array.toList_zipIdx]
      exact h1
    · simp
      omega

def plS (f : Field) : Sem (Nat × Nat) := do pure (f.offset, ← sizeOf f.type)

theorem run_places : ∀ (l : List Field), (l.all fun (f : Field) => (szT P f.type).isSome) = true → ∃ r : List (Nat × Nat), (l.mapM plS).run P w = .ok r w ∧ ∀ i : Nat, r[i]? = (l[i]?).bind (plF P)
  | [], _ => ⟨[], by simp, fun i => by simp⟩
  | f :: l, h => by
    simp only [List.all_cons, Bool.and_eq_true] at h
    obtain ⟨r, h1, h2⟩ := run_places l h.2
    obtain ⟨s, hs⟩ := Option.isSome_iff_exists.1 h.1
    refine ⟨(f.offset, s) :: r, ?_, fun i => ?_⟩
    · rw [List.mapM_cons]
      simp only [plS, Sem.run_bind, run_szT hs, Result.andThen_ok, Sem.run_pure] at h1 ⊢
      rw [h1]
      rfl
    · cases i with
      | zero => simp [plF, hs]
      | succ i => simpa using h2 i

theorem ne_bld {t : TypeId} {parts : Array (Nat × Operand)} {pl : Nat → Option (Nat × Nat)} {z : List V} {ps : List (Nat × Nat)} {ys : List Opd} (hop : o.op = .build t parts) (hpl : placesOf P t = some pl) (hz : zeroT P t = some z) (hp : partsOf pl parts.toList = some (ps, ys))
    (he : ERel ρ e a) {vs : List V} {eff : Eff} (hv : evs e ys = some vs) (hn : Kind.ne H (.bld z ps) vs = some eff) :
    NeOk P ρ w ((execOp a.eval o).run P w) eff := by
  simp only [Kind.ne, kBld] at hn
  cases hf : fillV z ps vs with
  | none => simp [hf] at hn
  | some cs =>
    simp [hf] at hn
    subst hn
    obtain ⟨zv, h1, h2, h3⟩ := zeroT_rel (ρ := ρ) hz
    obtain ⟨cs', h4, h5, h6, h7⟩ := fill_ok hp he hv h2 h3 hf
    refine ⟨.agg cs', ?_, .ofAgg h5 h6⟩
    have hparts : (parts.map fun (i, x) => (i, a.eval x)).toList = parts.toList.map fun (i, x) => (i, a.eval x) := by simp
    unfold placesOf at hpl
    split at hpl
    · rename_i fs hu
      split at hpl
      case isFalse => cases hpl
      rename_i hall
      cases hpl
      obtain ⟨r, h8, h9⟩ := run_places (P := P) (w := w) fs.toList hall
      have hm : (fs.mapM plS).run P w = .ok r.toArray w := by
        rw [Array.mapM_eq_mapM_toList]
        simp only [Sem.run_map, h8, Result.andThen_ok]
      have hpl : (fun i => r.toArray[i]?) = fun i : Nat => (fs[i]?).bind (plF P) := by
        funext i
        simpa using h9 i
      have hm' : (fs.mapM fun (f : Field) => (do pure (f.offset, ← sizeOf f.type) : Sem (Nat × Nat))).run P w = .ok r.toArray w := hm
      simp only [execOp, hop, Instr.build, Sem.run_bind, h1, Result.andThen_ok, run_underlying hu, hm', hpl, hparts, h4, Sem.run_pure]
    · rename_i n el hu
      cases hs : szT P el with
      | none => simp [hs] at hpl
      | some s =>
        simp [hs] at hpl
        subst hpl
        simp only [execOp, hop, Instr.build, Sem.run_bind, h1, Result.andThen_ok, run_underlying hu, run_szT hs, hparts, h4, Sem.run_pure]
    · cases hpl

end
end Go.Cn
