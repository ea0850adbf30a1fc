/- A region whose order is drawn: our one order stands for every order. -/
import Derived.Test.YtlnpgjfdlefmoaaGreatDoorCnReg
import Derived.Conc.MuLone
namespace Go.Cn
set_option linter.unusedVariables false
set_option linter.unusedSimpArgs false
set_option maxHeartbeats 200000

/-! ### What does not read, and what reads -/

theorem ne_still {k : Kind} (hk : k.reads = false) (H H' : Heap) (vs : List V) : k.ne H vs = k.ne H' vs := by
  cases k <;> first | rfl | cases hk

theorem row_grow {H H' : Heap} (h : ∀ id, H.blk id ≠ .dead → H'.blk id = H.blk id) {id o n : Nat} {cs : List V} (hr : H.row id o n = some cs) : H'.row id o n = some cs := by
  unfold Heap.row at hr ⊢
  rw [h id (by intro e; rw [e] at hr; cases hr)]
  exact hr

theorem ne_grow {k : Kind} {H H' : Heap} {vs : List V} {eff : Eff} (h : ∀ id, H.blk id ≠ .dead → H'.blk id = H.blk id) (hn : k.ne H vs = some eff) : k.ne H' vs = some eff := by
  cases hk : k.reads with
  | false => rw [← ne_still hk H H']; exact hn
  | true =>
    cases k <;> first | (simp [Kind.reads] at hk; done) | skip
    case ld n =>
      simp only [Kind.ne] at hn ⊢
      unfold kLd at hn ⊢
      split at hn
      case h_2 => cases hn
      rename_i id o
      cases n with
      | none =>
        simp only at hn ⊢
        rw [h id (by intro e; rw [e] at hn; cases hn)]
        exact hn
      | some n =>
        simp only at hn ⊢
        cases hr : H.row id o n with
        | none => rw [hr] at hn; cases hn
        | some cs => rw [row_grow h hr]; rw [hr] at hn; exact hn
    case lkp g ks z ok =>
      simp only [Kind.ne] at hn ⊢
      unfold kLkp at hn ⊢
      split at hn
      · exact hn
      · rename_i id k
        rw [h id (by intro e; rw [e] at hn; cases hn)]
        exact hn
      · cases hn
    case lenM =>
      simp only [Kind.ne] at hn ⊢
      unfold kLenM at hn ⊢
      split at hn
      case h_2 => cases hn
      rename_i id
      rw [h id (by intro e; rw [e] at hn; cases hn)]
      exact hn
    case b2s =>
      simp only [Kind.ne] at hn ⊢
      unfold kB2s at hn ⊢
      split at hn
      · exact hn
      · rename_i id o len f es
        cases hr : H.row id o len with
        | none => rw [hr] at hn; cases hn
        | some cs => rw [row_grow h hr]; rw [hr] at hn; exact hn
      · cases hn
    case eqP neg =>
      simp only [Kind.ne] at hn ⊢
      unfold kEqP at hn ⊢
      split at hn
      · exact hn
      · exact hn
      · rename_i i x j y
        split at hn
        case h_2 => cases hn
        rename_i h1 h2
        rw [h i (by rw [h1]; simp), h j (by rw [h2]; simp), h1, h2]
        exact hn
      · cases hn
    case ent =>
      simp only [Kind.ne] at hn ⊢
      unfold kEnt at hn ⊢
      split at hn
      case h_2 => cases hn
      rename_i it
      split at hn
      case h_2 => cases hn
      rename_i m since seen stepped h1
      rw [h it (by rw [h1]; simp), h1]
      simp only
      split at hn
      case h_2 => cases hn
      rename_i h2 h3
      rw [h m (by rw [h2]; simp), h2, h3]
      exact hn
    case rng =>
      simp only [Kind.ne] at hn ⊢
      unfold kRng at hn ⊢
      split at hn
      case h_2 => cases hn
      rename_i id
      rw [h id (by intro e; rw [e] at hn; cases hn)]
      exact hn

/-! ### Our order -/

def It.reads (it : It) : List Nat := it.ys.filterMap (fun | .t n => some n | .c _ => none) ++ (it.g.map (·.1)).toList

def It.clash (x y : It) : Bool :=
  (match x.dst with | some t => y.reads.contains t || y.dst == some t | none => false) || (match y.dst with | some t => x.reads.contains t | none => false)

/-- May 'x' stand ahead of 'y' in our order? -/
def pairOk (M : Nat → Nat) (x y : It) : Bool :=
  (!x.clash y || (M y.i).testBit x.i) && (!x.k.acts || (M y.i).testBit x.i) && (!x.k.reads || !y.k.acts || (M y.i).testBit x.i || y.keep.contains x.i)

/-- One that was done in our order: its word, and the new block's number. -/
structure Dn where
  it : It
  v : V
  nid : Option Nat

def fold (e : Env) (D : List Dn) : Env := D.foldl (fun e x => putE e x.it.dst x.v) e

theorem lk_putE (e : Env) (dst : Option Nat) (v : V) (t : Nat) : lk (putE e dst v) t = if dst = some t then some v else lk e t := by
  cases dst with
  | none => simp [putE]
  | some d =>
    simp only [putE, lk, Option.some.injEq]
    by_cases h : t = d
    · subst h; simp
    · rw [if_neg h, if_neg (fun e => h e.symm)]

theorem fold_congr {t : Nat} : ∀ (D : List Dn) {e e' : Env}, lk e t = lk e' t → lk (fold e D) t = lk (fold e' D) t
  | [], _, _, h => h
  | x :: D, e, e', h => fold_congr D (by rw [lk_putE, lk_putE, h])

theorem fold_filter {t : Nat} : ∀ (D : List Dn) (e : Env), lk (fold e D) t = lk (fold e (D.filter fun x => x.it.dst == some t)) t
  | [], _ => rfl
  | x :: D, e => by
    rw [List.filter_cons]
    split
    · exact fold_filter D _
    · rename_i h
      refine Eq.trans ?_ (fold_filter D e)
      refine fold_congr D ?_
      rw [lk_putE, if_neg (by simpa using h)]

theorem fold_append (e : Env) (A B : List Dn) : fold e (A ++ B) = fold (fold e A) B := by simp [fold, List.foldl_append]
theorem fold_cons (e : Env) (x : Dn) (B : List Dn) : fold e (x :: B) = fold (putE e x.it.dst x.v) B := rfl

theorem ev_congr {e e' : Env} {y : Opd} (h : ∀ t, y = .t t → lk e t = lk e' t) : ev e y = ev e' y := by
  cases y with
  | t n => exact h n rfl
  | c v => rfl

theorem evs_congr {e e' : Env} : ∀ {ys : List Opd}, (∀ t, Opd.t t ∈ ys → lk e t = lk e' t) → evs e ys = evs e' ys
  | [], _ => rfl
  | y :: ys, h => by
    simp only [evs]
    rw [ev_congr (fun t ht => h t (by simp [ht])), evs_congr (fun t ht => h t (by simp [ht]))]

theorem wantE_congr {e e' : Env} {g : Option (Nat × Bool)} (h : ∀ d w, g = some (d, w) → lk e d = lk e' d) : wantE e g = wantE e' g := by
  cases g with
  | none => rfl
  | some g => obtain ⟨d, w⟩ := g; simp only [wantE]; rw [h d w rfl]

theorem It.reads_opd {it : It} {t : Nat} (h : Opd.t t ∈ it.ys) : t ∈ it.reads := by
  refine List.mem_append_left _ (List.mem_filterMap.2 ⟨.t t, h, rfl⟩)
theorem It.reads_g {it : It} {d : Nat} {w : Bool} (h : it.g = some (d, w)) : d ∈ it.reads := by
  simp [It.reads, h]

/-- What is known of one that was done in our order, and waits in the run. -/
def EffV (H : Heap) (x : Dn) : Eff → Prop
  | .val u => x.v = u
  | .new B mk => ∃ id, x.nid = some id ∧ x.v = mk id ∧ id < H.next ∧ H.blk id = B

def PendV (H : Heap) (pd : List Pnd) (e : Env) (x : Dn) : Prop :=
  (wantE e x.it.g = some false ∧ x.v = V.undef) ∨
  (wantE e x.it.g = some true ∧ ∃ vs eff, evs e x.it.ys = some vs ∧ x.it.k.ne H vs = some eff ∧ (x.it.k.reads = true → ⟨x.it.i, x.it.k, vs, eff⟩ ∈ pd) ∧ EffV H x eff)

theorem PendV.grow {H H' : Heap} {pd pd' : List Pnd} {e : Env} {x : Dn} (h : PendV H pd e x) (hb : ∀ id, H.blk id ≠ .dead → H'.blk id = H.blk id) (hi : ∀ id, id < H.next → H'.blk id = H.blk id) (hn : H.next ≤ H'.next) (hp : ∀ p ∈ pd, p ∈ pd') : PendV H' pd' e x := by
  rcases h with h | ⟨h1, vs, eff, h2, h3, h4, h5⟩
  · exact .inl h
  · refine .inr ⟨h1, vs, eff, h2, ne_grow hb h3, fun h => hp _ (h4 h), ?_⟩
    cases eff with
    | val u => exact h5
    | new B mk =>
      obtain ⟨id, a, b, c, d⟩ := h5
      exact ⟨id, a, b, Nat.lt_of_lt_of_le c hn, by rw [hi id c, d]⟩

/-- What there is where the next one acts. -/
def Adv (P : Program) (Q : Env → Heap → Prop) (R : List It) (e : Env) (H : Heap) (pd : List Pnd) : Prop :=
  ∃ D R2 H2 pd2, R = D.map (·.it) ++ R2 ∧ (R2 = [] ∨ ∃ it R', R2 = it :: R' ∧ it.k.acts = true) ∧ cwp P R2 (fold e D) H2 pd2 Q ∧ (∀ x ∈ D, x.it.k.acts = false) ∧
      H.next ≤ H2.next ∧ (∀ id, id < H.next → H2.blk id = H.blk id) ∧ (∀ id, H2.next ≤ id → H2.blk id = .dead) ∧ (∀ p ∈ pd, p ∈ pd2) ∧ (∀ D1 x D3, D = D1 ++ x :: D3 → PendV H2 pd2 (fold e D1) x) ∧
      (∀ x ∈ D, ∀ id, x.nid = some id → H.next ≤ id ∧ id < H2.next) ∧ (∀ x ∈ D, ∀ y ∈ D, ∀ id, x.nid = some id → y.nid = some id → x.it.i = y.it.i)

/-- Up to the next one that acts. -/
theorem advance {P : Program} {Q : Env → Heap → Prop} : ∀ (R : List It) (e : Env) (H : Heap) (pd : List Pnd), (∀ id, H.next ≤ id → H.blk id = .dead) → cwp P R e H pd Q → Adv P Q R e H pd
  | [], e, H, pd, ht, h => ⟨[], [], H, pd, rfl, .inl rfl, h, by simp, Nat.le_refl _, fun _ _ => rfl, ht, fun _ h => h, by simp, by simp, by simp⟩
  | it :: R, e, H, pd, ht, h => by
    cases hk : it.k.acts with
    | true => exact ⟨[], it :: R, H, pd, rfl, .inr ⟨it, R, rfl, hk⟩, h, by simp, Nat.le_refl _, fun _ _ => rfl, ht, fun _ h => h, by simp, by simp, by simp⟩
    | false =>
      -- one step, given what comes of the rest
      have step : ∀ (v : V) (nid : Option Nat) (H1 : Heap) (pd1 : List Pnd), H.next ≤ H1.next → (∀ id, id < H.next → H1.blk id = H.blk id) → (∀ id, H1.next ≤ id → H1.blk id = .dead) → (∀ p ∈ pd, p ∈ pd1) → PendV H1 pd1 e ⟨it, v, nid⟩ →
          (∀ id, nid = some id → H.next ≤ id ∧ id < H1.next) → cwp P R (putE e it.dst v) H1 pd1 Q → Adv P Q (it :: R) e H pd := by
        intro v nid H1 pd1 g1 g2 g3 g4 g5 g6 g7
        obtain ⟨D, R2, H2, pd2, a1, a2, a3, a4, a5, a6, a7, a8, a9, a10, a11⟩ := advance R _ H1 pd1 g3 g7
        refine ⟨⟨it, v, nid⟩ :: D, R2, H2, pd2, by simp [a1], a2, a3, ?_, Nat.le_trans g1 a5, fun id hi => by rw [a6 id (Nat.lt_of_lt_of_le hi g1), g2 id hi], a7, fun p hp => a8 p (g4 p hp), ?_, ?_, ?_⟩
        · intro x hx
          rcases List.mem_cons.1 hx with rfl | hx
          · exact hk
          · exact a4 x hx
        · intro D1 x D3 hD
          cases D1 with
          | nil =>
            simp only [List.nil_append, List.cons.injEq] at hD
            obtain ⟨rfl, rfl⟩ := hD
            refine g5.grow (fun id hid => ?_) (fun id hi => a6 id hi) a5 a8
            refine a6 id ?_
            rcases Nat.lt_or_ge id H1.next with h | h
            · exact h
            · exact absurd (g3 id h) hid
          | cons y D1 =>
            simp only [List.cons_append, List.cons.injEq] at hD
            obtain ⟨rfl, hD⟩ := hD
            exact a9 D1 x D3 hD
        · intro x hx id hid
          rcases List.mem_cons.1 hx with rfl | hx
          · exact ⟨(g6 id hid).1, Nat.lt_of_lt_of_le (g6 id hid).2 a5⟩
          · exact ⟨Nat.le_trans g1 (a10 x hx id hid).1, (a10 x hx id hid).2⟩
        · intro x hx y hy id hxi hyi
          rcases List.mem_cons.1 hx with rfl | hx
          · rcases List.mem_cons.1 hy with rfl | hy
            · rfl
            · exact absurd (g6 id hxi).2 (Nat.not_lt.2 (a10 y hy id hyi).1)
          · rcases List.mem_cons.1 hy with rfl | hy
            · exact absurd (g6 id hyi).2 (Nat.not_lt.2 (a10 x hx id hxi).1)
            · exact a11 x hx y hy id hxi hyi
      unfold cwp at h
      split at h
      · cases h
      · rename_i hw
        exact step V.undef none H pd (Nat.le_refl _) (fun _ _ => rfl) ht (fun _ h => h) (.inl ⟨hw, rfl⟩) (by simp) h
      · rename_i hw
        split at h
        · cases h
        rename_i vs hvs
        rw [if_neg (by simp [hk])] at h
        split at h
        · cases h
        · rename_i v hn
          refine step v none H _ (Nat.le_refl _) (fun _ _ => rfl) ht ?_ (.inr ⟨hw, vs, .val v, hvs, hn, ?_, rfl⟩) (by simp) h
          · intro p hp
            split
            · exact List.mem_cons_of_mem _ hp
            · exact hp
          · intro hr; rw [if_pos hr]; exact List.mem_cons_self
        · rename_i B mk hn
          have hb : ∀ id, id < H.next → (H.push B).blk id = H.blk id := fun id hi => by
            have : id ≠ H.next := Nat.ne_of_lt hi
            simp [Heap.push, this]
          refine step (mk H.next) (some H.next) (H.push B) _ (Nat.le_succ _) hb ?_ ?_ (.inr ⟨hw, vs, .new B mk, hvs, ?_, ?_, H.next, rfl, rfl, Nat.lt_succ_self _, by simp [Heap.push]⟩) ?_ h
          · intro id hi
            have : id ≠ H.next := by simp only [Heap.push] at hi; omega
            simp only [Heap.push, this, if_false]
            exact ht id (by simp only [Heap.push] at hi; omega)
          · intro p hp
            split
            · exact List.mem_cons_of_mem _ hp
            · exact hp
          · refine ne_grow (fun id hid => hb id ?_) hn
            rcases Nat.lt_or_ge id H.next with h | h
            · exact h
            · exact absurd (ht id h) hid
          · intro hr; rw [if_pos hr]; exact List.mem_cons_self
          · intro id hid
            simp at hid
            subst hid
            exact ⟨Nat.le_refl _, Nat.lt_succ_self _⟩

end Go.Cn

/- Calls and iterations; and any operation that acts. -/
namespace Go.Cn
set_option linter.unusedVariables false
set_option linter.unusedSimpArgs false
set_option maxHeartbeats 200000

section
variable {P : Program} {ρ : Ren} {H : Heap} {w : World} {o : Oper} {a : Act} {e : Env}

theorem vrels_of_l2 {vs : List V} {l : List Operand} (h : L2 (fun v x => VRel ρ v (a.eval x)) vs l) : VRels ρ vs (l.toArray.map a.eval) := by
  induction h with
  | nil => simpa using VRels.nil
  | @cons x y xs ys h t ih =>
    refine ⟨by simpa using ih.1, fun i v v' hv hv' => ?_⟩
    cases i with
    | zero => simp at hv hv'; subst hv; subst hv'; exact h
    | succ i => exact ih.2 i v v' (by simpa using hv) (by simpa using hv')

theorem run_enter {f : FuncId} (hf : enters P f = true) (args : Array Value) (w : World) : (callFunc f args).run P w = .ok (.enter f args) w := by
  unfold enters at hf
  split at hf
  case h_2 => cases hf
  rename_i fn hfn
  simp only [Bool.not_eq_true', Bool.or_eq_false_iff] at hf
  obtain ⟨h1, h2⟩ := hf
  have h1' : fn.name ≠ "runtime.NumGoroutine" := by simpa using h1
  cases hb : fn.body with
  | none => rw [hb] at h2; cases h2
  | some c => simp [callFunc, hfn, h1', hb]

theorem choose_ok {n : Nat} (hn : 0 < n) (w : World) : ∃ (j : Nat) (w1 : World), j < n ∧ (w1 = w ∨ w1 = w.drew) ∧ (choose (Question.mapNext n)).run P w = .ok j w1 := by
  by_cases hf : n ≤ 1
  · exact ⟨0, w, by omega, Or.inl rfl, by simp [choose, Sem.run, Question.forced, hf]⟩
  · exact ⟨_, w.drew, Nat.mod_lt _ (by omega), Or.inr rfl, by
      simp only [choose, Sem.run, Question.forced, decide_eq_true_eq, hf, if_false, Question.cut]
      rfl⟩

theorem Ext.of_same {w' : World} (h : w'.heap = w.heap) (ho : w'.os = w.os) (hout : w'.output = w.output) : Ext ρ H w ρ H w' where
  stay _ _ := .inl rfl
  out _ _ h := ⟨h, rfl⟩
  next := Nat.le_refl _
  size := by rw [h]; exact Nat.le_refl _
  frame _ _ _ := by rw [h]
  old id o n es b h _ := ⟨id, o, n, es, h⟩
  os := ho
  output := hout

theorem nxt_ok {x : Operand} (hop : o.op = .next x false) {vs : List V} {K : V → Heap → Prop} (hl : L2 (fun v x => VRel ρ v (a.eval x)) vs [x]) (hr : Rel ρ H w) (hk : ActT P .nxt vs H K) :
    ∃ v' w' ρ' v H', (execOp a.eval o).run P w = .ok (.value v') w' ∧ VRel ρ' v v' ∧ Rel ρ' H' w' ∧ Ext ρ H w ρ' H' w' ∧ K v H' := by
  obtain ⟨v, rfl, hv⟩ := hl.one
  simp only [ActT] at hk
  split at hk
  case h_2 => cases hk
  rename_i it heq
  simp at heq; subst heq
  unfold nextV at hk
  split at hk
  case h_2 => cases hk
  rename_i m since seen stepped hb
  split at hk
  case h_2 => cases hk
  rename_i l clock hm
  obtain ⟨c1, c2, c3⟩ := hk
  obtain ⟨b, bm, n, es, rm, nm, em, l', e1, h1, h2, h3, h4, h5⟩ := iterLive hr hv hb hm
  have o1 : ∀ w1 : World, w1.heap = w.heap → (getObj b).run P w1 = .ok (.mapIter (some bm) since seen.toArray stepped) w1 := fun w1 e => run_getObj (by rw [e]; exact h2) (by intros; simp)
  have o2 : (getObj bm).run P w = .ok _ w := run_getObj h4 (by intros; simp)
  -- entry by entry
  have back : ∀ e' ∈ l', ∃ x ∈ l, VRel ρ x.1 e'.key ∧ VRel ρ x.2.1 e'.val ∧ e'.born = x.2.2 := by
    intro e' he'
    obtain ⟨i, hi, hie⟩ := Array.mem_iff_getElem.1 he'
    have hi' : i < l.length := by rw [h5.1]; exact hi
    obtain ⟨y, g1, g2, g3, g4⟩ := h5.2 i l[i].1 l[i].2.1 l[i].2.2 (by simp [hi'])
    have : y = e' := by
      have : l'[i]? = some e' := by simp [hi, hie]
      rw [this] at g1; exact (Option.some.inj g1).symm
    subst this
    exact ⟨l[i], List.getElem_mem hi', g2, g3, g4⟩
  have forth : ∀ x ∈ l, ∃ e' ∈ l', e'.born = x.2.2 := by
    intro x hx
    obtain ⟨i, hi, hie⟩ := List.mem_iff_getElem.1 hx
    obtain ⟨y, g1, g2, g3, g4⟩ := h5.2 i x.1 x.2.1 x.2.2 (by simp [hi, hie])
    exact ⟨y, Array.mem_of_getElem? g1, g4⟩
  have test : (!seen.toArray.isEmpty && !l'.isEmpty && l'.all fun e => decide (e.born ≥ stepped)) = false := by
    rcases c1 with c | c | c
    · simp [c]
    · have : l' = #[] := by
        apply Array.eq_empty_of_size_eq_zero
        rw [← h5.1, c]; rfl
      simp [this]
    · have : (l'.all fun e => decide (e.born ≥ stepped)) = false := by
        rw [Bool.eq_false_iff]
        intro hall
        refine c fun x hx => ?_
        obtain ⟨e', he', hb'⟩ := forth x hx
        have := Array.all_eq_true_iff_forall_mem.1 hall e' he'
        simp at this
        omega
      simp [this]
  -- what is left
  generalize hL : l'.filter (fun e => !seen.toArray.contains e.born) = L at *
  have inL : ∀ e' ∈ L, ∃ x ∈ l.filter (fun e => !seen.contains e.2.2), VRel ρ x.1 e'.key ∧ VRel ρ x.2.1 e'.val ∧ e'.born = x.2.2 := by
    intro e' he'
    rw [← hL] at he'
    obtain ⟨q1, q2⟩ := Array.mem_filter.1 he'
    obtain ⟨x, g1, g2, g3, g4⟩ := back e' q1
    refine ⟨x, List.mem_filter.2 ⟨g1, ?_⟩, g2, g3, g4⟩
    rw [← g4]; simpa using q2
  have oldE : (L.filter fun e => decide (e.born < since)).isEmpty = true → (l.filter fun e => !seen.contains e.2.2).filter (fun e => decide (e.2.2 < since)) = [] := by
    intro he
    rw [List.filter_eq_nil_iff]
    intro x hx hlt
    obtain ⟨q1, q2⟩ := List.mem_filter.1 hx
    obtain ⟨e', g1, g2⟩ := forth x q1
    have : e' ∈ L.filter (fun e => decide (e.born < since)) := by
      rw [Array.mem_filter, ← hL, Array.mem_filter]
      refine ⟨⟨g1, ?_⟩, ?_⟩
      · rw [g2]; simpa using q2
      · rw [g2]; exact hlt
    rw [Array.isEmpty_iff] at he
    rw [he] at this
    simp at this
  generalize hC : (if (L.filter fun e => decide (e.born < since)).isEmpty = true then #[none] else #[]) ++ ((L.filter fun e => decide (e.born < since)) ++ L.filter fun e => decide (e.born ≥ since)).map some = C
  have hC0 : 0 < C.size := by
    rw [← hC]
    split
    · rw [Array.size_append]
      exact Nat.lt_of_lt_of_le Nat.one_pos (Nat.le_add_right 1 _)
    · rename_i h
      simp only [Array.isEmpty_iff] at h
      have : 0 < (L.filter fun e => decide (e.born < since)).size := by
        rcases Nat.eq_zero_or_pos (L.filter fun e => decide (e.born < since)).size with z | z
        · exact absurd (Array.eq_empty_of_size_eq_zero z) h
        · exact z
      simp
      omega
  obtain ⟨j, w1, hj, hw1, hch⟩ := choose_ok (P := P) hC0 w
  have hw1h : w1.heap = w.heap := by rcases hw1 with rfl | rfl <;> rfl
  have hw1o : w1.os = w.os := by rcases hw1 with rfl | rfl <;> rfl
  have hw1p : w1.output = w.output := by rcases hw1 with rfl | rfl <;> rfl
  have hr1 : Rel ρ H w1 := hr.of_heap hw1h
  have hX1 : Ext ρ H w ρ H w1 := Ext.of_same hw1h hw1o hw1p
  have hrun : (execOp a.eval o).run P w = ((match C[j]? with
      | some (some e) => do
        setObj b (.mapIter (some bm) since (seen.toArray.push e.born) clock)
        pure (.value (.tuple #[.bool true, e.key, e.val]))
      | some none => pure (.value (.tuple #[.bool false]))
      | none => stuck "Next: no such candidate" : Sem Next)).run P w1 := by
    simp only [execOp, hop, Instr.next, e1, Sem.run_bind, o1 w rfl, Result.andThen_ok, o2, test, Bool.false_eq_true, if_false, hL, hC, hch]
    cases C[j]? with
    | none => simp
    | some y => cases y with
      | none => simp
      | some y =>
        simp
        generalize Sem.run P (setObj b _) w1 = r
        cases r <;> rfl
  rw [hrun]
  have hCj : C[j]? = some C[j] := by simp [hj]
  rw [hCj]
  have hmem : C[j] ∈ C := by simp
  cases hc : C[j] with
  | none =>
    refine ⟨_, w1, ρ, _, H, rfl, .ofTuple (cs := [.bool false]) ⟨rfl, fun i u u' hu hu' => ?_⟩, hr1, hX1, c2 (oldE ?_)⟩
    · match i with
      | 0 => simp at hu hu'; subst hu; subst hu'; exact .bool _
      | i + 1 => simp at hu
    · rw [hc, ← hC] at hmem
      rcases Array.mem_append.1 hmem with h | h
      · split at h
        · assumption
        · simp at h
      · simp at h
  | some e' =>
    have he' : e' ∈ L := by
      rw [hc, ← hC] at hmem
      rcases Array.mem_append.1 hmem with h | h
      · split at h <;> simp at h
      · simp only [Array.mem_map, Option.some.injEq, exists_eq_right, Array.mem_append, Array.mem_filter] at h
        rcases h with h | h <;> exact h.1
    obtain ⟨x, g1, g2, g3, g4⟩ := inL e' he'
    have hso : (setObj b (.mapIter (some bm) since (seen.toArray.push e'.born) clock)).run P w1 = .ok () _ := run_setObj (by rw [hw1h]; exact h2) (by intros; simp)
    have hset := rel_set hr1 h1 (w' := World.setBlk w1 b (.mapIter (some bm) since (seen.toArray.push e'.born) clock)) rfl rfl rfl (B := .iter m since (seen ++ [x.2.2]) clock)
      ⟨rfl, rfl, bm, by
        have := hr1.lt h1
        simp [World.setBlk, this, g4], .inr ⟨rm, nm, em, h3⟩⟩
    refine ⟨_, _, ρ, _, _, by simp only [Sem.run_bind, hso, Result.andThen_ok]; rfl, .ofTuple (cs := [.bool true, x.1, x.2.1]) ⟨rfl, fun i u u' hu hu' => ?_⟩, hset.1, hX1.trans hset.2, c3 x g1⟩
    match i with
    | 0 => simp at hu hu'; subst hu; subst hu'; exact .bool _
    | 1 => simp at hu hu'; subst hu; subst hu'; exact g2
    | 2 => simp at hu hu'; subst hu; subst hu'; exact g3
    | i + 3 => simp at hu

/-- The kinds that act elsewhere: calls and iterations. -/
def Kind.late : Kind → Bool
  | .nxt | .bad | .call _ | .callv => true
  | _ => false

theorem late_inv {k : Kind} {ys : List Opd} (hc : cop P o = some (k, ys)) (hk : k.late = true) :
    (∃ x, o.op = .next x false ∧ mono .nxt [x] = some (k, ys)) ∨
    (∃ c f, o.op = .call c ∧ c.callee = .value (.func f) ∧ enters P f = true ∧ mono (.call f) c.args.toList = some (k, ys)) ∨
    (∃ c t, o.op = .call c ∧ c.callee = .value (.tmp t) ∧ mono .callv (.tmp t :: c.args.toList) = some (k, ys)) := by
  have no : ∀ {k' : Kind} {l : List Operand}, mono k' l = some (k, ys) → k'.late ≠ false := by
    intro k' l h h'
    obtain ⟨rfl, _⟩ := mono_some h
    rw [h'] at hk
    cases hk
  cases hop : o.op <;> simp only [cop, hop] at hc
  case store t x y =>
    split at hc
    case h_2 => cases hc
    exact absurd rfl (no hc)
  case mapUpdate t m k' x =>
    split at hc
    case h_2 => cases hc
    obtain ⟨_, _, h⟩ := Option.bind_eq_some_iff.1 hc
    obtain ⟨_, _, h⟩ := Option.bind_eq_some_iff.1 h
    exact absurd rfl (no h)
  case insert t m k' x =>
    split at hc
    case h_2 => cases hc
    obtain ⟨_, _, h⟩ := Option.bind_eq_some_iff.1 hc
    obtain ⟨_, _, h⟩ := Option.bind_eq_some_iff.1 h
    exact absurd rfl (no h)
  case call c =>
    split at hc
    · split at hc
      case h_2 => cases hc
      split at hc
      case h_5 => cases hc
      all_goals exact absurd rfl (no hc)
    · split at hc
      case h_2 => cases hc
      split at hc
      case h_2 => cases hc
      exact absurd rfl (no hc)
    · split at hc
      case h_2 => cases hc
      split at hc
      case h_3 => cases hc
      · split at hc
        case h_2 => cases hc
        split at hc
        case isFalse => cases hc
        exact absurd rfl (no hc)
      · split at hc
        case h_2 => cases hc
        split at hc
        case isFalse => cases hc
        exact absurd rfl (no hc)
    · split at hc
      case h_2 => cases hc
      split at hc
      case h_2 => cases hc
      split at hc
      case h_2 => cases hc
      exact absurd rfl (no hc)
    · split at hc
      case h_2 => cases hc
      split at hc
      case h_2 => cases hc
      obtain ⟨_, _, h⟩ := Option.bind_eq_some_iff.1 hc
      obtain ⟨_, _, h⟩ := Option.bind_eq_some_iff.1 h
      exact absurd rfl (no h)
    · split at hc
      case h_2 => cases hc
      split at hc
      case h_2 => cases hc
      split at hc
      case h_2 => cases hc
      split at hc
      case isFalse => cases hc
      exact absurd rfl (no hc)
    · split at hc
      case h_2 => cases hc
      exact absurd rfl (no hc)
    · split at hc
      case h_2 => cases hc
      exact absurd rfl (no hc)
    · rename_i f hcal
      split at hc
      case h_2 => cases hc
      rename_i fn hfn
      split at hc
      case isTrue => cases hc
      rename_i hcond
      refine .inr (.inl ⟨c, f, rfl, hcal, ?_, hc⟩)
      simp only [enters, hfn, Bool.not_eq_true']
      exact Bool.eq_false_iff.2 hcond
    · rename_i t hcal
      exact .inr (.inr ⟨c, t, rfl, hcal, hc⟩)
    · cases hc
  case move x => exact absurd rfl (no hc)
  case assign x => exact absurd rfl (no hc)
  case pick c x y => exact absurd rfl (no hc)
  case nilCheck x => exact absurd rfl (no hc)
  case alloc t => obtain ⟨_, _, h⟩ := Option.map_eq_some_iff.1 hc; cases h; cases hk
  case box t x => exact absurd rfl (no hc)
  case build t parts =>
    split at hc
    case h_2 => cases hc
    obtain ⟨_, _, h⟩ := Option.map_eq_some_iff.1 hc; cases h; cases hk
  case buildSlice t len parts =>
    split at hc
    case h_2 => cases hc
    split at hc
    case h_2 => cases hc
    split at hc
    case isFalse => cases hc
    obtain ⟨_, _, h⟩ := Option.map_eq_some_iff.1 hc; cases h; cases hk
  case load t x =>
    split at hc
    case h_3 => cases hc
    all_goals exact absurd rfl (no hc)
  case binOp op t x y u =>
    split at hc
    all_goals first | (cases hc; done) | skip
    · exact absurd rfl (no hc)
    · exact absurd rfl (no hc)
    · exact absurd rfl (no hc)
    · exact absurd rfl (no hc)
    · split at hc
      · exact absurd rfl (no hc)
      · split at hc
        case h_2 => cases hc
        split at hc
        case isFalse => cases hc
        exact absurd rfl (no hc)
    · split at hc
      · exact absurd rfl (no hc)
      · split at hc
        case h_2 => cases hc
        split at hc
        case isFalse => cases hc
        exact absurd rfl (no hc)
    · split at hc
      case isFalse => cases hc
      exact absurd rfl (no hc)
    · split at hc
      case isFalse => cases hc
      exact absurd rfl (no hc)
    · split at hc
      case isFalse => cases hc
      exact absurd rfl (no hc)
    · split at hc
      case isFalse => cases hc
      exact absurd rfl (no hc)
    all_goals
      obtain ⟨_, _, h⟩ := Option.bind_eq_some_iff.1 hc
      exact absurd rfl (no h)
  case unOp op t x => exact absurd rfl (no hc)
  case convert s d x =>
    split at hc
    case h_4 => cases hc
    · exact absurd rfl (no hc)
    · split at hc
      case isFalse => cases hc
      exact absurd rfl (no hc)
    · split at hc
      case isFalse => cases hc
      exact absurd rfl (no hc)
  case makeInterface t x =>
    split at hc
    case h_1 => cases hc
    case h_2 => cases hc
    exact absurd rfl (no hc)
  case makeFunc fn first captured =>
    cases fn with
    | func f =>
      simp only at hc
      split at hc
      case isFalse => cases hc
      exact absurd rfl (no hc)
    | _ => simp at hc
  case makeMap t r =>
    cases r with
    | none => cases hc; cases hk
    | some _ => simp at hc
  case makeSlice t l c =>
    split at hc
    case h_2 => cases hc
    split at hc
    case h_2 => cases hc
    split at hc
    case isFalse => cases hc
    exact absurd rfl (no hc)
  case slice t x lo hi mx =>
    split at hc
    case h_3 => cases hc
    · split at hc
      case isTrue => cases hc
      exact absurd rfl (no hc)
    · split at hc
      case h_2 => cases hc
      split at hc
      · split at hc
        case isFalse => cases hc
        exact absurd rfl (no hc)
      · exact absurd rfl (no hc)
  case fieldAddr s x f =>
    split at hc
    case h_2 => cases hc
    split at hc
    case h_2 => cases hc
    split at hc
    case h_2 => cases hc
    split at hc
    case isTrue => cases hc
    exact absurd rfl (no hc)
  case field t x f =>
    split at hc
    case h_2 => cases hc
    split at hc
    case h_2 => cases hc
    split at hc
    case h_2 => cases hc
    exact absurd rfl (no hc)
  case indexAddr t x i =>
    split at hc
    case h_3 => cases hc
    all_goals
      split at hc
      case h_2 => cases hc
      exact absurd rfl (no hc)
  case index t x i =>
    split at hc
    case h_3 => cases hc
    · split at hc
      case h_2 => cases hc
      exact absurd rfl (no hc)
    · exact absurd rfl (no hc)
  case lookup t x i ok =>
    split at hc
    case h_2 => cases hc
    split at hc
    case h_2 => cases hc
    exact absurd rfl (no hc)
  case range t x =>
    split at hc
    case h_2 => cases hc
    exact absurd rfl (no hc)
  case next x s =>
    split at hc
    case isTrue => cases hc
    rename_i hs
    simp at hs
    subst hs
    exact .inl ⟨x, rfl, hc⟩
  case entry x => exact absurd rfl (no hc)
  case extract x i => exact absurd rfl (no hc)
  all_goals cases hc


/-- An operation that acts: what is handed on. -/
theorem act_sim {k : Kind} {ys : List Opd} (hc : cop P o = some (k, ys)) (hk : k.acts = true) (he : ERel ρ e a) {vs : List V} (hv : evs e ys = some vs) (hr : Rel ρ H w) {K : V → Heap → Prop} (hK : ActT P k vs H K)
    {next : Act → World → Prop} {Q : Exit → Act → World → Prop} (hn : ∀ ρ' v v' H' w', VRel ρ' v v' → Rel ρ' H' w' → Ext ρ H w ρ' H' w' → K v H' → next (a.put o.dst v') w') : o.wp P a w next Q := by
  cases hp : k.plain with
  | true =>
    have : ∃ v H', k.ef H vs = some (v, H') ∧ K v H' := by
      cases k <;> first | (simp [Kind.plain] at hp; done) | skip
      all_goals
        simp only [ActT] at hK
        split at hK
        case h_2 => cases hK
        exact ⟨_, _, by assumption, hK⟩
    obtain ⟨v, H', h1, h2⟩ := this
    obtain ⟨n, v', w', ρ', e1, e2, e3, e4, e5⟩ := ef_sim hc hp he hv hr h1
    unfold Oper.wp
    rw [e1]
    cases n <;> first | (cases e2; done) | skip
    · cases e2; exact hn ρ' v _ H' w' e3 e4 e5 h2
    · cases e2; exact hn ρ' v _ H' w' e3 e4 e5 h2
  | false =>
    have hl : k.late = true := by cases k <;> first | rfl | (simp [Kind.acts] at hk; done) | (simp [Kind.plain] at hp; done)
    rcases late_inv hc hl with ⟨x, hop, hm⟩ | ⟨c, f, hop, hcal, hf, hm⟩ | ⟨c, t, hop, hcal, hm⟩
    · obtain ⟨rfl, hl2⟩ := mono_l2 hm he hv
      obtain ⟨v', w', ρ', v, H', e1, e2, e3, e4, e5⟩ := nxt_ok hop hl2 hr hK
      unfold Oper.wp
      rw [e1]
      exact hn ρ' v v' H' w' e2 e3 e4 e5
    · obtain ⟨rfl, hl2⟩ := mono_l2 hm he hv
      have hrun : (execOp a.eval o).run P w = .ok (.enter f (c.args.map a.eval)) w := by
        simp only [execOp, hop, resolve, hcal, Act.eval, Deferred.ofValue]
        simpa [invoke] using run_enter hf _ w
      unfold Oper.wp
      rw [hrun, Oper.upon_enter]
      have hargs := vrels_of_l2 hl2
      refine Calls.mono (hK ρ w _ hr (by simpa using hargs)) ?_
      rintro e' w' ⟨ρ', v, v', H', rfl, h1, h2, h3, h4⟩
      exact hn ρ' v v' H' w' h1 h2 h3 h4
    · obtain ⟨rfl, hl2⟩ := mono_l2 hm he hv
      obtain ⟨u, us, rfl, hu, hus⟩ := hl2.cons_inv
      simp only [ActT] at hK
      split at hK
      case h_2 => cases hK
      rename_i f caps rest heq
      cases heq
      obtain ⟨hf, hK⟩ := hK
      generalize hx : a.eval (.tmp t) = x at hu
      cases hu with
      | @func f caps caps' hn1 hn2 =>
        have hrun : (execOp a.eval o).run P w = .ok (.enter f (c.args.map a.eval ++ caps')) w := by
          simp only [execOp, hop, resolve, hcal, hx, Deferred.ofValue]
          simpa [invoke] using run_enter hf _ w
        unfold Oper.wp
        rw [hrun, Oper.upon_enter]
        have hargs := vrels_of_l2 hus
        refine Calls.mono (hK ρ w _ hr (VRels.append (by simpa using hargs) ⟨hn1, hn2⟩)) ?_
        rintro e' w' ⟨ρ', v, v', H', rfl, h1, h2, h3, h4⟩
        exact hn ρ' v v' H' w' h1 h2 h3 h4

end
end Go.Cn
