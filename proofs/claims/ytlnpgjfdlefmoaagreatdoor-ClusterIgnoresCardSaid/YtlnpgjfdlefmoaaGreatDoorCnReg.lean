/- All operations that do not act, and all that act but for calls and iterations: the abstract machine's word stands for the model's run. -/
import Derived.Test.YtlnpgjfdlefmoaaGreatDoorCnApp
namespace Go.Cn
set_option linter.unusedVariables false
set_option linter.unusedSimpArgs false
set_option maxHeartbeats 200000

section
variable {P : Program} {ρ : Ren} {H : Heap} {w : World} {o : Oper} {a : Act} {e : Env}

theorem EntriesRel.find {l : List (V × V × Nat)} {l' : Array MapEntry} (h : EntriesRel ρ l l') {stamp : Nat} {x : V × V × Nat} (hx : l.find? (fun e => e.2.2 == stamp) = some x) :
    ∃ e', l'.find? (·.born == stamp) = some e' ∧ VRel ρ x.1 e'.key ∧ VRel ρ x.2.1 e'.val := by
  have h2 := h.l2
  rw [← Array.find?_toList]
  generalize l'.toList = m at h2
  clear h
  induction h2 with
  | nil => simp at hx
  | cons h t ih =>
    rename_i y e' ys es
    obtain ⟨h1, h2, h3⟩ := h
    rw [List.find?_cons] at hx
    rw [List.find?_cons, h3]
    split at hx
    · rename_i hb
      cases hx
      exact ⟨e', rfl, h1, h2⟩
    · rename_i hb
      exact ih hx

theorem iterLive (hr : Rel ρ H w) {it : Nat} {x : Value} (h : VRel ρ (.ptr (some (it, 0))) x) {m since stepped : Nat} {seen : List Nat} (hb : H.blk it = .iter m since seen stepped) {l : List (V × V × Nat)} {clock : Nat} (hm : H.blk m = .map l clock) :
    ∃ b bm n es rm nm em l', x = .pointer (some ⟨b, 0, none⟩) ∧ ρ it = .live false b 0 n es ∧ w.heap[b]? = some (.mapIter (some bm) since seen.toArray stepped) ∧ ρ m = .live rm bm 0 nm em ∧ w.heap[bm]? = some (.map l' clock) ∧ EntriesRel ρ l l' := by
  obtain ⟨ad, rfl, hp⟩ := h.ptr_inv
  cases hp with
  | dead ad hd => rw [hr.dead hd] at hb; cases hb
  | live hl =>
    rename_i ro b o1 n es
    have hB := hr.blk hl
    rw [hb] at hB
    obtain ⟨rfl, rfl, bm, h1, h2⟩ := hB
    rcases h2 with hd | ⟨rm, nm, em, hml⟩
    · rw [hr.dead hd] at hm; cases hm
    · obtain ⟨l', h3, h4⟩ := hr.mapAt hml hm
      exact ⟨b, bm, n, es, rm, nm, em, l', rfl, hl, h1, hml, h3, h4⟩

theorem ne_ent {x : Operand} (hop : o.op = .entry x) (hr : Rel ρ H w) {vs : List V} {eff : Eff} (hl : L2 (fun v x => VRel ρ v (a.eval x)) vs [x]) (hn : Kind.ne H .ent vs = some eff) :
    NeOk P ρ w ((execOp a.eval o).run P w) eff := by
  obtain ⟨v, rfl, hv⟩ := hl.one
  simp only [Kind.ne, kEnt] at hn
  split at hn
  case h_2 => cases hn
  rename_i it heq
  simp at heq; subst heq
  split at hn
  case h_2 => cases hn
  rename_i m since seen stepped hb
  split at hn
  case h_2 => cases hn
  rename_i l clock stamp hm hs
  split at hn
  case isFalse => cases hn
  rename_i hcl
  subst hcl
  cases hf : l.find? (fun e => e.2.2 == stamp) with
  | none => rw [hf] at hn; cases hn
  | some y =>
    rw [hf] at hn
    cases hn
    obtain ⟨b, bm, n, es, rm, nm, em, l', e1, h1, h2, h3, h4, h5⟩ := iterLive hr hv hb hm
    obtain ⟨e', g1, g2, g3⟩ := h5.find hf
    have o1 : (getObj b).run P w = .ok _ w := run_getObj h2 (by intros; simp)
    have o2 : (getObj bm).run P w = .ok _ w := run_getObj h4 (by intros; simp)
    have hback : seen.toArray.back? = some stamp := by simpa using hs
    refine ⟨.tuple #[e'.key, e'.val], ?_, .ofTuple ⟨rfl, fun j u u' hu hu' => ?_⟩⟩
    · simp only [execOp, hop, Instr.entry, e1, Sem.run_bind, o1, Result.andThen_ok, hback, o2]
      simp [g1]
    · match j with
      | 0 => simp at hu hu'; subst hu; subst hu'; exact g2
      | 1 => simp at hu hu'; subst hu; subst hu'; exact g3
      | j + 2 => simp at hu

theorem mono_l2 {k k' : Kind} {l : List Operand} {ys : List Opd} (h : mono k l = some (k', ys)) (he : ERel ρ e a) {vs : List V} (hv : evs e ys = some vs) : k = k' ∧ L2 (fun v x => VRel ρ v (a.eval x)) vs l := by
  obtain ⟨h1, h2⟩ := mono_some h
  exact ⟨h1, opds_rel he h2 hv⟩

theorem ne_eqNP {op : BinOp} {neg : Bool} (hop' : (op = .eql ∧ neg = false) ∨ (op = .neq ∧ neg = true)) {t u el : TypeId} {x y : Operand} (hop : o.op = .binOp op t x y u) (hy : isNilP y = true) (ht : P.underlying t = some (.pointer el))
    {vs : List V} {eff : Eff} (hl : L2 (fun v x => VRel ρ v (a.eval x)) vs [x, y]) (hn : Kind.ne H (.eqN neg) vs = some eff) : NeOk P ρ w ((execOp a.eval o).run P w) eff := by
  unfold isNilP at hy
  split at hy
  case h_2 => cases hy
  exact ne_eqN hop' hop rfl (.inl ⟨⟨el, ht⟩, none, rfl⟩) hl hn

theorem ne_eqNS {op : BinOp} {neg : Bool} (hop' : (op = .eql ∧ neg = false) ∨ (op = .neq ∧ neg = true)) {t u el : TypeId} {x y : Operand} (hop : o.op = .binOp op t x y u) (hy : isNilS y = true) (ht : P.underlying t = some (.slice el))
    {vs : List V} {eff : Eff} (hl : L2 (fun v x => VRel ρ v (a.eval x)) vs [x, y]) (hn : Kind.ne H (.eqN neg) vs = some eff) : NeOk P ρ w ((execOp a.eval o).run P w) eff := by
  unfold isNilS at hy
  split at hy
  case h_2 => cases hy
  exact ne_eqN hop' hop rfl (.inr (.inl ⟨⟨el, ht⟩, none, 0, 0, rfl⟩)) hl hn

theorem ne_eqNI {op : BinOp} {neg : Bool} (hop' : (op = .eql ∧ neg = false) ∨ (op = .neq ∧ neg = true)) {t u : TypeId} {ms : Array (String × TypeId)} {x y : Operand} (hop : o.op = .binOp op t x y u) (hy : isNilI y = true) (ht : P.underlying t = some (.interface ms))
    {vs : List V} {eff : Eff} (hl : L2 (fun v x => VRel ρ v (a.eval x)) vs [x, y]) (hn : Kind.ne H (.eqN neg) vs = some eff) : NeOk P ρ w ((execOp a.eval o).run P w) eff := by
  unfold isNilI at hy
  split at hy
  case h_2 => cases hy
  exact ne_eqN hop' hop rfl (.inr (.inr ⟨⟨ms, ht⟩, rfl⟩)) hl hn

theorem ne_sim {k : Kind} {ys : List Opd} (hc : cop P o = some (k, ys)) (hk : k.acts = false) (he : ERel ρ e a) {vs : List V} (hv : evs e ys = some vs) (hr : Rel ρ H w) {eff : Eff} (hn : k.ne H vs = some eff) :
    NeOk P ρ w ((execOp a.eval o).run P w) eff := by
  cases hop : o.op <;> simp only [cop, hop] at hc
  case move x => obtain ⟨rfl, hl⟩ := mono_l2 hc he hv; exact ne_mov (.inl hop) hl hn
  case assign x => obtain ⟨rfl, hl⟩ := mono_l2 hc he hv; exact ne_mov (.inr hop) hl hn
  case pick c x y => obtain ⟨rfl, hl⟩ := mono_l2 hc he hv; exact ne_pick hop hl hn
  case nilCheck x => obtain ⟨rfl, hl⟩ := mono_l2 hc he hv; exact ne_nilc hop hl hn
  case alloc t =>
    cases hz : zeroT P t with
    | none => simp [hz] at hc
    | some z =>
      simp [hz] at hc
      obtain ⟨rfl, rfl⟩ := hc
      simp [evs] at hv
      exact ne_alloc hop hz hv hn
  case box t x => obtain ⟨rfl, hl⟩ := mono_l2 hc he hv; exact ne_box hop hl hn
  case build t parts =>
    split at hc
    case h_2 => cases hc
    rename_i pl z h1 h2
    cases hp : partsOf pl parts.toList with
    | none => simp [hp] at hc
    | some pp =>
      obtain ⟨ps, ys'⟩ := pp
      simp [hp] at hc
      obtain ⟨rfl, rfl⟩ := hc
      exact ne_bld hop h1 h2 hp he hv hn
  case buildSlice t len parts =>
    split at hc
    case h_2 => cases hc
    rename_i el ht
    split at hc
    case h_2 => cases hc
    rename_i s z h1 h2
    split at hc
    case isFalse => cases hc
    rename_i hb
    cases hp : partsOf (fun i => some (i * s, s)) parts.toList with
    | none => simp [hp] at hc
    | some pp =>
      obtain ⟨ps, ys'⟩ := pp
      simp [hp] at hc
      obtain ⟨rfl, rfl⟩ := hc
      exact ne_bsl hop ht h1 h2 hb.1 hb.2.1 hb.2.2 hp he hv hn
  case load t x =>
    split at hc
    case h_3 => cases hc
    · rename_i n h1 h2
      obtain ⟨rfl, hl⟩ := mono_l2 hc he hv
      exact ne_ld (g := true) (n := n) hop h1 h2 hr hl hn
    · rename_i n h1 h2
      obtain ⟨rfl, hl⟩ := mono_l2 hc he hv
      exact ne_ld (g := false) (n := n) hop h1 h2 hr hl hn
  case store t x y =>
    split at hc
    case h_2 => cases hc
    obtain ⟨rfl, hl⟩ := mono_l2 hc he hv
    cases hk
  case binOp op t x y u =>
    split at hc
    all_goals first | (cases hc; done) | skip
    · obtain ⟨rfl, hl⟩ := mono_l2 hc he hv; exact ne_bin hop hl hn
    · obtain ⟨rfl, hl⟩ := mono_l2 hc he hv; exact ne_bin hop hl hn
    · rename_i ht; obtain ⟨rfl, hl⟩ := mono_l2 hc he hv; exact ne_eqB (.inl ⟨rfl, rfl⟩) hop ht hl hn
    · rename_i ht; obtain ⟨rfl, hl⟩ := mono_l2 hc he hv; exact ne_eqB (.inr ⟨rfl, rfl⟩) hop ht hl hn
    · rename_i el ht
      split at hc
      · rename_i hy
        obtain ⟨rfl, hl⟩ := mono_l2 hc he hv
        exact ne_eqNP (.inl ⟨rfl, rfl⟩) hop hy ht hl hn
      · split at hc
        case h_2 => cases hc
        rename_i s hs
        split at hc
        case isFalse => cases hc
        rename_i h0
        obtain ⟨rfl, hl⟩ := mono_l2 hc he hv
        exact ne_eqP (.inl ⟨rfl, rfl⟩) hop ht hs h0 hr hl hn
    · rename_i el ht
      split at hc
      · rename_i hy
        obtain ⟨rfl, hl⟩ := mono_l2 hc he hv
        exact ne_eqNP (.inr ⟨rfl, rfl⟩) hop hy ht hl hn
      · split at hc
        case h_2 => cases hc
        rename_i s hs
        split at hc
        case isFalse => cases hc
        rename_i h0
        obtain ⟨rfl, hl⟩ := mono_l2 hc he hv
        exact ne_eqP (.inr ⟨rfl, rfl⟩) hop ht hs h0 hr hl hn
    · rename_i el ht
      split at hc
      case isFalse => cases hc
      rename_i hy
      obtain ⟨rfl, hl⟩ := mono_l2 hc he hv
      exact ne_eqNS (.inl ⟨rfl, rfl⟩) hop hy ht hl hn
    · rename_i el ht
      split at hc
      case isFalse => cases hc
      rename_i hy
      obtain ⟨rfl, hl⟩ := mono_l2 hc he hv
      exact ne_eqNS (.inr ⟨rfl, rfl⟩) hop hy ht hl hn
    · rename_i el ht
      split at hc
      case isFalse => cases hc
      rename_i hy
      obtain ⟨rfl, hl⟩ := mono_l2 hc he hv
      exact ne_eqNI (.inl ⟨rfl, rfl⟩) hop hy ht hl hn
    · rename_i el ht
      split at hc
      case isFalse => cases hc
      rename_i hy
      obtain ⟨rfl, hl⟩ := mono_l2 hc he hv
      exact ne_eqNI (.inr ⟨rfl, rfl⟩) hop hy ht hl hn
    all_goals
      rename_i ht
      cases hf : flatKey P t with
      | none => simp [hf] at hc
      | some ks =>
        simp only [hf, Option.bind_some] at hc
        obtain ⟨rfl, hl⟩ := mono_l2 hc he hv
        first
          | exact ne_eqF (.inl ⟨rfl, rfl⟩) hop hf (by simp [aggT, ht]) hl hn
          | exact ne_eqF (.inr ⟨rfl, rfl⟩) hop hf (by simp [aggT, ht]) hl hn
  case unOp op t x => obtain ⟨rfl, hl⟩ := mono_l2 hc he hv; exact ne_un hop hl hn
  case convert s d x =>
    split at hc
    case h_4 => cases hc
    · rename_i j k' hs hd
      obtain ⟨rfl, hl⟩ := mono_l2 hc he hv; exact ne_cvI hop hs hd hl hn
    · rename_i el hs hd
      split at hc
      case isFalse => cases hc
      rename_i hb
      obtain ⟨rfl, hl⟩ := mono_l2 hc he hv
      unfold bytesT at hb
      rw [hs] at hb
      simp only at hb
      split at hb
      case h_2 => cases hb
      rename_i he'
      exact ne_b2s hop hs he' hd hr hl hn
    · rename_i el hs hd
      split at hc
      case isFalse => cases hc
      rename_i hb
      obtain ⟨rfl, hl⟩ := mono_l2 hc he hv
      unfold bytesT at hb
      rw [hd] at hb
      simp only at hb
      split at hb
      case h_2 => cases hb
      rename_i he'
      exact ne_s2b hop hs hd he' hl hn
  case makeInterface t x =>
    split at hc
    case h_1 => cases hc
    case h_2 => cases hc
    rename_i d hi hd
    obtain ⟨rfl, hl⟩ := mono_l2 hc he hv
    exact ne_mkI hop ⟨d, hd, fun ms e => hi ms e⟩ hl hn
  case makeFunc fn first captured =>
    cases fn with
    | func f =>
      simp only at hc
      split at hc
      case isFalse => cases hc
      rename_i hf
      obtain ⟨rfl, hl⟩ := mono_l2 hc he hv
      exact ne_mkF hop hf hl hn
    | _ => simp at hc
  case makeMap t r =>
    cases r with
    | none =>
      simp only [Option.some.injEq, Prod.mk.injEq] at hc
      obtain ⟨rfl, rfl⟩ := hc
      simp [evs] at hv
      exact ne_mkM hop hv hn
    | some _ => simp at hc
  case makeSlice t l c =>
    split at hc
    case h_2 => cases hc
    rename_i el ht
    split at hc
    case h_2 => cases hc
    rename_i s b z h1 h2 h3
    split at hc
    case isFalse => cases hc
    rename_i hb
    obtain ⟨rfl, hl⟩ := mono_l2 hc he hv
    exact ne_mkS hop ht h1 h2 h3 hb.1 hb.2 hl hn
  case slice t x lo hi mx =>
    split at hc
    case h_3 => cases hc
    · rename_i ht
      split at hc
      case isTrue => cases hc
      rename_i hm
      obtain ⟨rfl, hl⟩ := mono_l2 hc he hv
      have hm' : mx = none := by cases mx <;> simp at hm ⊢
      subst hm'
      exact ne_slStr hop ht hl hn
    · rename_i el ht
      split at hc
      case h_2 => cases hc
      rename_i s hs
      cases mx with
      | none =>
        simp only [Option.isSome_none, Bool.false_eq_true, if_false] at hc
        obtain ⟨rfl, hl⟩ := mono_l2 hc he hv
        exact ne_slS hop ht hs hl hn
      | some mx =>
        simp only [Option.isSome_some, if_true] at hc
        split at hc
        case isFalse => cases hc
        rename_i hlh
        cases lo with
        | none => simp at hlh
        | some lo => cases hi with
          | none => simp at hlh
          | some hi =>
            obtain ⟨rfl, hl⟩ := mono_l2 hc he hv
            exact ne_sl3 hop ht hs hl hn
  case fieldAddr s x f =>
    split at hc
    case h_2 => cases hc
    rename_i fs hs
    split at hc
    case h_2 => cases hc
    rename_i fd hf
    split at hc
    case h_2 => cases hc
    rename_i n hz
    split at hc
    case isTrue => cases hc
    rename_i h0
    obtain ⟨rfl, hl⟩ := mono_l2 hc he hv
    exact ne_fa hop hs hf hz h0 hl hn
  case field t x f =>
    split at hc
    case h_2 => cases hc
    rename_i fs hs
    split at hc
    case h_2 => cases hc
    rename_i fd hf
    split at hc
    case h_2 => cases hc
    rename_i g n hg hz
    obtain ⟨rfl, hl⟩ := mono_l2 hc he hv
    exact ne_fld hop hs hf hz hg hl hn
  case indexAddr t x i =>
    split at hc
    case h_3 => cases hc
    · rename_i n el ht
      split at hc
      case h_2 => cases hc
      rename_i s hs
      obtain ⟨rfl, hl⟩ := mono_l2 hc he hv
      exact ne_iaA hop ht hs hl hn
    · rename_i el ht
      split at hc
      case h_2 => cases hc
      rename_i s hs
      obtain ⟨rfl, hl⟩ := mono_l2 hc he hv
      exact ne_iaS hop ht hs hl hn
  case index t x i =>
    split at hc
    case h_3 => cases hc
    · rename_i n el ht
      split at hc
      case h_2 => cases hc
      rename_i s g hs hg
      obtain ⟨rfl, hl⟩ := mono_l2 hc he hv
      exact ne_ixA hop ht hs hg hl hn
    · rename_i ht
      obtain ⟨rfl, hl⟩ := mono_l2 hc he hv
      exact ne_ixStr hop ht hl hn
  case lookup t x i ok =>
    split at hc
    case h_2 => cases hc
    rename_i kt el ht
    split at hc
    case h_2 => cases hc
    rename_i ks z g h1 h2 h3
    obtain ⟨rfl, hl⟩ := mono_l2 hc he hv
    exact ne_lkp hop ht h1 h3 h2 hr hl hn
  case mapUpdate t m k' x =>
    split at hc
    case h_2 => cases hc
    rename_i kt el ht
    cases hf : flatKey P kt with
    | none => simp [hf] at hc
    | some ks => cases hg : aggT P kt with
      | none => simp [hf, hg] at hc
      | some g =>
        simp only [hf, hg, Option.bind_some] at hc
        obtain ⟨rfl, hl⟩ := mono_l2 hc he hv
        cases hk
  case insert t m k' x =>
    split at hc
    case h_2 => cases hc
    rename_i kt el ht
    cases hf : flatKey P kt with
    | none => simp [hf] at hc
    | some ks => cases hg : aggT P kt with
      | none => simp [hf, hg] at hc
      | some g =>
        simp only [hf, hg, Option.bind_some] at hc
        obtain ⟨rfl, hl⟩ := mono_l2 hc he hv
        cases hk
  case range t x =>
    split at hc
    case h_2 => cases hc
    rename_i kt el ht
    obtain ⟨rfl, hl⟩ := mono_l2 hc he hv
    exact ne_rng hop ht hr hl hn
  case next x s =>
    split at hc
    case isTrue => cases hc
    obtain ⟨rfl, hl⟩ := mono_l2 hc he hv
    cases hk
  case entry x => obtain ⟨rfl, hl⟩ := mono_l2 hc he hv; exact ne_ent hop hr hl hn
  case extract x i => obtain ⟨rfl, hl⟩ := mono_l2 hc he hv; exact ne_ext hop hl hn
  case call c =>
    split at hc
    · rename_i hcal
      split at hc
      case h_2 => cases hc
      rename_i t x hat ha
      split at hc
      case h_5 => cases hc
      · rename_i el ht; obtain ⟨rfl, hl⟩ := mono_l2 hc he hv; exact ne_lenS hop hcal ha hat ht hl hn
      · rename_i ht; obtain ⟨rfl, hl⟩ := mono_l2 hc he hv; exact ne_lenT hop hcal ha hat ht hl hn
      · rename_i n el ht; obtain ⟨rfl, hl⟩ := mono_l2 hc he hv; exact ne_lenK hop hcal ha hat ht hl hn
      · rename_i kt el ht; obtain ⟨rfl, hl⟩ := mono_l2 hc he hv; exact ne_lenM hop hcal ha hat ht hr hl hn
    · rename_i hcal
      split at hc
      case h_2 => cases hc
      rename_i t x hat ha
      split at hc
      case h_2 => cases hc
      rename_i el ht
      obtain ⟨rfl, hl⟩ := mono_l2 hc he hv
      exact ne_capS hop hcal ha hat ht hl hn
    · -- append
      exfalso
      repeat' first | (cases hc; done) | (obtain ⟨rfl, _⟩ := mono_some hc; cases hk; done) | split at hc
    · -- copy
      exfalso
      repeat (split at hc <;> try (cases hc; done))
      all_goals (obtain ⟨rfl, _⟩ := mono_some hc; cases hk)
    · -- delete
      exfalso
      split at hc
      case h_2 => cases hc
      split at hc
      case h_2 => cases hc
      rename_i kt el ht
      cases hf : flatKey P kt with
      | none => simp [hf] at hc
      | some ks => cases hg : aggT P kt with
        | none => simp [hf, hg] at hc
        | some g =>
          simp only [hf, hg, Option.bind_some] at hc
          obtain ⟨rfl, _⟩ := mono_some hc
          cases hk
    · -- clear
      exfalso
      repeat (split at hc <;> try (cases hc; done))
      all_goals (obtain ⟨rfl, _⟩ := mono_some hc; cases hk)
    · rename_i hcal
      split at hc
      case h_2 => cases hc
      rename_i x y ha
      obtain ⟨rfl, hl⟩ := mono_l2 hc he hv
      exact ne_maxI hop hcal ha hl hn
    · rename_i hcal
      split at hc
      case h_2 => cases hc
      rename_i x y ha
      obtain ⟨rfl, hl⟩ := mono_l2 hc he hv
      exact ne_minI hop hcal ha hl hn
    · exfalso
      repeat (split at hc <;> try (cases hc; done))
      all_goals (obtain ⟨rfl, _⟩ := mono_some hc; cases hk)
    · exfalso
      obtain ⟨rfl, _⟩ := mono_some hc
      cases hk
    · cases hc
  all_goals cases hc

/-- The kinds that act by themselves: no call, no iteration. -/
def Kind.plain : Kind → Bool
  | .st _ | .app _ _ | .appStr | .cpy _ | .mset _ _ | .del _ _ | .clr _ => true
  | _ => false

set_option maxHeartbeats 2000000 in
theorem ef_sim {k : Kind} {ys : List Opd} (hc : cop P o = some (k, ys)) (hk : k.plain = true) (he : ERel ρ e a) {vs : List V} (hv : evs e ys = some vs) (hr : Rel ρ H w) {v : V} {H' : Heap} (hn : k.ef H vs = some (v, H')) :
    EfOk P ρ H w ((execOp a.eval o).run P w) v H' := by
  have no : ∀ {k' : Kind} {l : List Operand}, mono k' l = some (k, ys) → k'.plain ≠ false := by
    intro k' l h h'
    obtain ⟨rfl, _⟩ := mono_some h
    rw [h'] at hk
    cases hk
  cases hop : o.op <;> simp only [cop, hop] at hc
  case store t x y =>
    split at hc
    case h_2 => cases hc
    rename_i n hz
    obtain ⟨rfl, hl⟩ := mono_l2 hc he hv
    exact ef_st hop hz hr hl hn
  case mapUpdate t m k' x =>
    split at hc
    case h_2 => cases hc
    rename_i kt el ht
    cases hf : flatKey P kt with
    | none => simp [hf] at hc
    | some ks => cases hg : aggT P kt with
      | none => simp [hf, hg] at hc
      | some g =>
        simp only [hf, hg, Option.bind_some] at hc
        obtain ⟨rfl, hl⟩ := mono_l2 hc he hv
        exact ef_mset (.inl hop) ht hf hg hr hl hn
  case insert t m k' x =>
    split at hc
    case h_2 => cases hc
    rename_i kt el ht
    cases hf : flatKey P kt with
    | none => simp [hf] at hc
    | some ks => cases hg : aggT P kt with
      | none => simp [hf, hg] at hc
      | some g =>
        simp only [hf, hg, Option.bind_some] at hc
        obtain ⟨rfl, hl⟩ := mono_l2 hc he hv
        exact ef_mset (.inr hop) ht hf hg hr hl hn
  case call c =>
    split at hc
    · split at hc
      case h_2 => cases hc
      split at hc
      case h_5 => cases hc
      all_goals exact absurd rfl (no hc)
    · split at hc
      case h_2 => cases hc
      split at hc
      case h_2 => cases hc
      exact absurd rfl (no hc)
    · rename_i hcal
      split at hc
      case h_2 => cases hc
      rename_i t u x y hat ha
      split at hc
      case h_3 => cases hc
      · rename_i el e' ht hu
        split at hc
        case h_2 => cases hc
        rename_i s b z h1 h2 h3
        split at hc
        case isFalse => cases hc
        rename_i hzl
        obtain ⟨rfl, hl⟩ := mono_l2 hc he hv
        exact ef_app hop hcal ha hat ht hu h1 h2 h3 hzl hr hl hn
      · rename_i el ht hu
        split at hc
        case h_2 => cases hc
        rename_i z h3
        split at hc
        case isFalse => cases hc
        rename_i hb
        obtain ⟨rfl, hl⟩ := mono_l2 hc he hv
        exact ef_appStr hop hcal ha hat ht hu hb.1 hb.2.1 h3 hb.2.2 hr hl hn
    · rename_i hcal
      split at hc
      case h_2 => cases hc
      rename_i t u x y hat ha
      split at hc
      case h_2 => cases hc
      rename_i el e' ht hu
      split at hc
      case h_2 => cases hc
      rename_i s h1
      obtain ⟨rfl, hl⟩ := mono_l2 hc he hv
      exact ef_cpy (e' := e') hop hcal ha hat ht h1 hr hl hn
    · rename_i hcal
      split at hc
      case h_2 => cases hc
      rename_i t ts m k' hat ha
      split at hc
      case h_2 => cases hc
      rename_i kt el ht
      cases hf : flatKey P kt with
      | none => simp [hf] at hc
      | some ks => cases hg : aggT P kt with
        | none => simp [hf, hg] at hc
        | some g =>
          simp only [hf, hg, Option.bind_some] at hc
          obtain ⟨rfl, hl⟩ := mono_l2 hc he hv
          exact ef_del hop hcal ha hat ht hf hg hr hl hn
    · rename_i hcal
      split at hc
      case h_2 => cases hc
      rename_i t x hat ha
      split at hc
      case h_2 => cases hc
      rename_i el ht
      split at hc
      case h_2 => cases hc
      rename_i z s h1 h2
      split at hc
      case isFalse => cases hc
      rename_i hb
      obtain ⟨rfl, hl⟩ := mono_l2 hc he hv
      exact ef_clr hop hcal ha hat ht h2 h1 hb.1 hb.2.1 hr hl hn
    · split at hc
      case h_2 => cases hc
      exact absurd rfl (no hc)
    · split at hc
      case h_2 => cases hc
      exact absurd rfl (no hc)
    · split at hc
      case h_2 => cases hc
      split at hc
      case isTrue => cases hc
      exact absurd rfl (no hc)
    · exact absurd rfl (no hc)
    · cases hc
  case move x => exact absurd rfl (no hc)
  case assign x => exact absurd rfl (no hc)
  case pick c x y => exact absurd rfl (no hc)
  case nilCheck x => exact absurd rfl (no hc)
  case alloc t => obtain ⟨_, _, h⟩ := Option.map_eq_some_iff.1 hc; cases h; cases hk
  case box t x => exact absurd rfl (no hc)
  case build t parts =>
    split at hc
    case h_2 => cases hc
    obtain ⟨_, _, h⟩ := Option.map_eq_some_iff.1 hc; cases h; cases hk
  case buildSlice t len parts =>
    split at hc
    case h_2 => cases hc
    split at hc
    case h_2 => cases hc
    split at hc
    case isFalse => cases hc
    obtain ⟨_, _, h⟩ := Option.map_eq_some_iff.1 hc; cases h; cases hk
  case load t x =>
    split at hc
    case h_3 => cases hc
    all_goals exact absurd rfl (no hc)
  case binOp op t x y u =>
    split at hc
    all_goals first | (cases hc; done) | skip
    · exact absurd rfl (no hc)
    · exact absurd rfl (no hc)
    · exact absurd rfl (no hc)
    · exact absurd rfl (no hc)
    · split at hc
      · exact absurd rfl (no hc)
      · split at hc
        case h_2 => cases hc
        split at hc
        case isFalse => cases hc
        exact absurd rfl (no hc)
    · split at hc
      · exact absurd rfl (no hc)
      · split at hc
        case h_2 => cases hc
        split at hc
        case isFalse => cases hc
        exact absurd rfl (no hc)
    · split at hc
      case isFalse => cases hc
      exact absurd rfl (no hc)
    · split at hc
      case isFalse => cases hc
      exact absurd rfl (no hc)
    · split at hc
      case isFalse => cases hc
      exact absurd rfl (no hc)
    · split at hc
      case isFalse => cases hc
      exact absurd rfl (no hc)
    all_goals
      obtain ⟨_, _, h⟩ := Option.bind_eq_some_iff.1 hc
      exact absurd rfl (no h)
  case unOp op t x => exact absurd rfl (no hc)
  case convert s d x =>
    split at hc
    case h_4 => cases hc
    · exact absurd rfl (no hc)
    · split at hc
      case isFalse => cases hc
      exact absurd rfl (no hc)
    · split at hc
      case isFalse => cases hc
      exact absurd rfl (no hc)
  case makeInterface t x =>
    split at hc
    case h_1 => cases hc
    case h_2 => cases hc
    exact absurd rfl (no hc)
  case makeFunc fn first captured =>
    cases fn with
    | func f =>
      simp only at hc
      split at hc
      case isFalse => cases hc
      exact absurd rfl (no hc)
    | _ => simp at hc
  case makeMap t r =>
    cases r with
    | none => cases hc; cases hk
    | some _ => simp at hc
  case makeSlice t l c =>
    split at hc
    case h_2 => cases hc
    split at hc
    case h_2 => cases hc
    split at hc
    case isFalse => cases hc
    exact absurd rfl (no hc)
  case slice t x lo hi mx =>
    split at hc
    case h_3 => cases hc
    · split at hc
      case isTrue => cases hc
      exact absurd rfl (no hc)
    · split at hc
      case h_2 => cases hc
      split at hc
      · split at hc
        case isFalse => cases hc
        exact absurd rfl (no hc)
      · exact absurd rfl (no hc)
  case fieldAddr s x f =>
    split at hc
    case h_2 => cases hc
    split at hc
    case h_2 => cases hc
    split at hc
    case h_2 => cases hc
    split at hc
    case isTrue => cases hc
    exact absurd rfl (no hc)
  case field t x f =>
    split at hc
    case h_2 => cases hc
    split at hc
    case h_2 => cases hc
    split at hc
    case h_2 => cases hc
    exact absurd rfl (no hc)
  case indexAddr t x i =>
    split at hc
    case h_3 => cases hc
    all_goals
      split at hc
      case h_2 => cases hc
      exact absurd rfl (no hc)
  case index t x i =>
    split at hc
    case h_3 => cases hc
    · split at hc
      case h_2 => cases hc
      exact absurd rfl (no hc)
    · exact absurd rfl (no hc)
  case lookup t x i ok =>
    split at hc
    case h_2 => cases hc
    split at hc
    case h_2 => cases hc
    exact absurd rfl (no hc)
  case range t x =>
    split at hc
    case h_2 => cases hc
    exact absurd rfl (no hc)
  case next x s =>
    split at hc
    case isTrue => cases hc
    exact absurd rfl (no hc)
  case entry x => exact absurd rfl (no hc)
  case extract x i => exact absurd rfl (no hc)
  all_goals cases hc

end
end Go.Cn

/- A region walked once, in one order of our own choice, with the abstract machine; and why that stands for every order the run may draw. -/
namespace Go.Cn
set_option linter.unusedVariables false
set_option linter.unusedSimpArgs false
set_option maxHeartbeats 200000

/-- One operation, made ready: its number in the region; where its word goes; its guard's slot; what it does to which operands; 'keep': the reads that stand ahead of it in our order and might come behind it in the run. -/
structure It where
  i : Nat
  dst : Option Nat
  g : Option (Nat × Bool)
  k : Kind
  ys : List Opd
  keep : List Nat

/-- A read that was done in our order, and may be done later in the run. -/
structure Pnd where
  i : Nat
  k : Kind
  vs : List V
  eff : Eff

def wantE (e : Env) : Option (Nat × Bool) → Option Bool
  | none => some true
  | some (d, want) => match lk e d with
    | some (.bool b) => some (b == want)
    | some (.tuple _) => some false
    | _ => none

def putE (e : Env) (dst : Option Nat) (v : V) : Env :=
  match dst with
  | some d => (d, v) :: e
  | none => e

/-- A call, in the abstract machine's words: what is handed back stands for a value and a heap of which 'K' holds. -/
def CallT (P : Program) (f : FuncId) (vs : List V) (H : Heap) (K : V → Heap → Prop) : Prop :=
  ∀ ρ w args, Rel ρ H w → VRels ρ vs args → Calls P f args w fun e w' =>
    ∃ ρ' v v' H', e = .returned v' ∧ VRel ρ' v v' ∧ Rel ρ' H' w' ∧ Ext ρ H w ρ' H' w' ∧ K v H'

/-- Is it a function of the program's with a body? -/
def enters (P : Program) (f : FuncId) : Bool :=
  match P.funcs[f]? with
  | some fn => !(fn.name == "runtime.NumGoroutine" || fn.body.isNone)
  | none => false

def ActT (P : Program) (k : Kind) (vs : List V) (H : Heap) (K : V → Heap → Prop) : Prop :=
  match k with
  | .call f => CallT P f vs H K
  | .callv => match vs with
    | .func f caps :: rest => enters P f = true ∧ CallT P f (rest ++ caps) H K
    | _ => False
  | .nxt => match vs with
    | [.ptr (some (it, 0))] => nextV H it K
    | _ => False
  | .bad => False
  | k => match k.ef H vs with
    | some (v, H') => K v H'
    | none => False

def cwp (P : Program) : List It → Env → Heap → List Pnd → (Env → Heap → Prop) → Prop
  | [], e, H, _, Q => Q e H
  | it :: rest, e, H, pd, Q =>
    match wantE e it.g with
    | none => False
    | some false => cwp P rest (putE e it.dst V.undef) H pd Q
    | some true =>
      match evs e it.ys with
      | none => False
      | some vs =>
        if it.k.acts then
          ActT P it.k vs H fun v H' => (∀ p ∈ pd.filter (fun p => it.keep.contains p.i), p.k.ne H' p.vs = some p.eff) ∧ cwp P rest (putE e it.dst v) H' (pd.filter (fun p => it.keep.contains p.i)) Q
        else match it.k.ne H vs with
          | none => False
          | some (.val v) => cwp P rest (putE e it.dst v) H (if it.k.reads then ⟨it.i, it.k, vs, .val v⟩ :: pd else pd) Q
          | some (.new B mk) => cwp P rest (putE e it.dst (mk H.next)) (H.push B) (if it.k.reads then ⟨it.i, it.k, vs, .new B mk⟩ :: pd else pd) Q

end Go.Cn
