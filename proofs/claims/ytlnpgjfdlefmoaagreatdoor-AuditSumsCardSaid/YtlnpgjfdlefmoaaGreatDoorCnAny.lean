/- A region whose order is drawn: our one order stands for every order. -/
import Derived.Test.YtlnpgjfdlefmoaaGreatDoorCnReg
namespace Go.Cn
set_option linter.unusedVariables false
set_option linter.unusedSimpArgs false
set_option maxHeartbeats 200000

/-! ### What does not read, and what reads -/

theorem ne_still {k : Kind} (hk : k.reads = false) (H H' : Heap) (vs : List V) : k.ne H vs = k.ne H' vs := by
  cases k <;> first | rfl | cases hk

theorem row_grow {H H' : Heap} (h : ∀ id, H.blk id ≠ .dead → H'.blk id = H.blk id) {id o n : Nat} {cs : List V} (hr : H.row id o n = some cs) : H'.row id o n = some cs := by
  unfold Heap.row at hr ⊢
  rw [h id (by intro e; rw [e] at hr; cases hr)]
  exact hr

theorem ne_grow {k : Kind} {H H' : Heap} {vs : List V} {eff : Eff} (h : ∀ id, H.blk id ≠ .dead → H'.blk id = H.blk id) (hn : k.ne H vs = some eff) : k.ne H' vs = some eff := by
  cases hk : k.reads with
  | false => rw [← ne_still hk H H']; exact hn
  | true =>
    cases k <;> first | (simp [Kind.reads] at hk; done) | skip
    case ld n =>
      simp only [Kind.ne] at hn ⊢
      unfold kLd at hn ⊢
      split at hn
      case h_2 => cases hn
      rename_i id o
      cases n with
      | none =>
        simp only at hn ⊢
        rw [h id (by intro e; rw [e] at hn; cases hn)]
        exact hn
      | some n =>
        simp only at hn ⊢
        cases hr : H.row id o n with
        | none => rw [hr] at hn; cases hn
        | some cs => rw [row_grow h hr]; rw [hr] at hn; exact hn
    case lkp g ks z ok =>
      simp only [Kind.ne] at hn ⊢
      unfold kLkp at hn ⊢
      split at hn
      · exact hn
      · rename_i id k
        rw [h id (by intro e; rw [e] at hn; cases hn)]
        exact hn
      · cases hn
    case lenM =>
      simp only [Kind.ne] at hn ⊢
      unfold kLenM at hn ⊢
      split at hn
      case h_2 => cases hn
      rename_i id
      rw [h id (by intro e; rw [e] at hn; cases hn)]
      exact hn
    case b2s =>
      simp only [Kind.ne] at hn ⊢
      unfold kB2s at hn ⊢
      split at hn
      · exact hn
      · rename_i id o len f es
        cases hr : H.row id o len with
        | none => rw [hr] at hn; cases hn
        | some cs => rw [row_grow h hr]; rw [hr] at hn; exact hn
      · cases hn
    case eqP neg =>
      simp only [Kind.ne] at hn ⊢
      unfold kEqP at hn ⊢
      split at hn
      · exact hn
      · exact hn
      · rename_i i x j y
        split at hn
        case h_2 => cases hn
        rename_i h1 h2
        rw [h i (by rw [h1]; simp), h j (by rw [h2]; simp), h1, h2]
        exact hn
      · cases hn
    case ent =>
      simp only [Kind.ne] at hn ⊢
      unfold kEnt at hn ⊢
      split at hn
      case h_2 => cases hn
      rename_i it
      split at hn
      case h_2 => cases hn
      rename_i m since seen stepped h1
      rw [h it (by rw [h1]; simp), h1]
      simp only
      split at hn
      case h_2 => cases hn
      rename_i h2 h3
      rw [h m (by rw [h2]; simp), h2, h3]
      exact hn
    case rng =>
      simp only [Kind.ne] at hn ⊢
      unfold kRng at hn ⊢
      split at hn
      case h_2 => cases hn
      rename_i id
      rw [h id (by intro e; rw [e] at hn; cases hn)]
      exact hn

/-! ### Our order -/

def It.reads (it : It) : List Nat := it.ys.filterMap (fun | .t n => some n | .c _ => none) ++ (it.g.map (·.1)).toList

def It.clash (x y : It) : Bool :=
  (match x.dst with | some t => y.reads.contains t || y.dst == some t | none => false) || (match y.dst with | some t => x.reads.contains t | none => false)

/-- May 'x' stand ahead of 'y' in our order? -/
def pairOk (M : Nat → Nat) (x y : It) : Bool :=
  (!x.clash y || (M y.i).testBit x.i) && (!x.k.acts || (M y.i).testBit x.i) && (!x.k.reads || !y.k.acts || (M y.i).testBit x.i || y.keep.contains x.i)

/-- One that was done in our order: its word, and the new block's number. -/
structure Dn where
  it : It
  v : V
  nid : Option Nat

def fold (e : Env) (D : List Dn) : Env := D.foldl (fun e x => putE e x.it.dst x.v) e

theorem lk_putE (e : Env) (dst : Option Nat) (v : V) (t : Nat) : lk (putE e dst v) t = if dst = some t then some v else lk e t := by
  cases dst with
  | none => simp [putE]
  | some d =>
    simp only [putE, lk, Option.some.injEq]
    by_cases h : t = d
    · subst h; simp
    · rw [if_neg h, if_neg (fun e => h e.symm)]

theorem fold_congr {t : Nat} : ∀ (D : List Dn) {e e' : Env}, lk e t = lk e' t → lk (fold e D) t = lk (fold e' D) t
  | [], _, _, h => h
  | x :: D, e, e', h => fold_congr D (by rw [lk_putE, lk_putE, h])

theorem fold_filter {t : Nat} : ∀ (D : List Dn) (e : Env), lk (fold e D) t = lk (fold e (D.filter fun x => x.it.dst == some t)) t
  | [], _ => rfl
  | x :: D, e => by
    rw [List.filter_cons]
    split
    · exact fold_filter D _
    · rename_i h
      refine Eq.trans ?_ (fold_filter D e)
      refine fold_congr D ?_
      rw [lk_putE, if_neg (by simpa using h)]

theorem fold_append (e : Env) (A B : List Dn) : fold e (A ++ B) = fold (fold e A) B := by simp [fold, List.foldl_append]
theorem fold_cons (e : Env) (x : Dn) (B : List Dn) : fold e (x :: B) = fold (putE e x.it.dst x.v) B := rfl

theorem ev_congr {e e' : Env} {y : Opd} (h : ∀ t, y = .t t → lk e t = lk e' t) : ev e y = ev e' y := by
  cases y with
  | t n => exact h n rfl
  | c v => rfl

theorem evs_congr {e e' : Env} : ∀ {ys : List Opd}, (∀ t, Opd.t t ∈ ys → lk e t = lk e' t) → evs e ys = evs e' ys
  | [], _ => rfl
  | y :: ys, h => by
    simp only [evs]
    rw [ev_congr (fun t ht => h t (by simp [ht])), evs_congr (fun t ht => h t (by simp [ht]))]

theorem wantE_congr {e e' : Env} {g : Option (Nat × Bool)} (h : ∀ d w, g = some (d, w) → lk e d = lk e' d) : wantE e g = wantE e' g := by
  cases g with
  | none => rfl
  | some g => obtain ⟨d, w⟩ := g; simp only [wantE]; rw [h d w rfl]

theorem It.reads_opd {it : It} {t : Nat} (h : Opd.t t ∈ it.ys) : t ∈ it.reads := by
  refine List.mem_append_left _ (List.mem_filterMap.2 ⟨.t t, h, rfl⟩)
theorem It.reads_g {it : It} {d : Nat} {w : Bool} (h : it.g = some (d, w)) : d ∈ it.reads := by
  simp [It.reads, h]

/-- What is known of one that was done in our order, and waits in the run. -/
def EffV (H : Heap) (x : Dn) : Eff → Prop
  | .val u => x.v = u
  | .new B mk => ∃ id, x.nid = some id ∧ x.v = mk id ∧ id < H.next ∧ H.blk id = B

def PendV (H : Heap) (pd : List Pnd) (e : Env) (x : Dn) : Prop :=
  (wantE e x.it.g = some false ∧ x.v = V.undef) ∨
  (wantE e x.it.g = some true ∧ ∃ vs eff, evs e x.it.ys = some vs ∧ x.it.k.ne H vs = some eff ∧ (x.it.k.reads = true → ⟨x.it.i, x.it.k, vs, eff⟩ ∈ pd) ∧ EffV H x eff)

theorem PendV.grow {H H' : Heap} {pd pd' : List Pnd} {e : Env} {x : Dn} (h : PendV H pd e x) (hb : ∀ id, H.blk id ≠ .dead → H'.blk id = H.blk id) (hi : ∀ id, id < H.next → H'.blk id = H.blk id) (hn : H.next ≤ H'.next) (hp : ∀ p ∈ pd, p ∈ pd') : PendV H' pd' e x := by
  rcases h with h | ⟨h1, vs, eff, h2, h3, h4, h5⟩
  · exact .inl h
  · refine .inr ⟨h1, vs, eff, h2, ne_grow hb h3, fun h => hp _ (h4 h), ?_⟩
    cases eff with
    | val u => exact h5
    | new B mk =>
      obtain ⟨id, a, b, c, d⟩ := h5
      exact ⟨id, a, b, Nat.lt_of_lt_of_le c hn, by rw [hi id c, d]⟩

/-- What there is where the next one acts. -/
def Adv (P : Program) (Q : Env → Heap → Prop) (R : List It) (e : Env) (H : Heap) (pd : List Pnd) : Prop :=
  ∃ D R2 H2 pd2, R = D.map (·.it) ++ R2 ∧ (R2 = [] ∨ ∃ it R', R2 = it :: R' ∧ it.k.acts = true) ∧ cwp P R2 (fold e D) H2 pd2 Q ∧ (∀ x ∈ D, x.it.k.acts = false) ∧
      H.next ≤ H2.next ∧ (∀ id, id < H.next → H2.blk id = H.blk id) ∧ (∀ id, H2.next ≤ id → H2.blk id = .dead) ∧ (∀ p ∈ pd, p ∈ pd2) ∧ (∀ D1 x D3, D = D1 ++ x :: D3 → PendV H2 pd2 (fold e D1) x) ∧
      (∀ x ∈ D, ∀ id, x.nid = some id → H.next ≤ id ∧ id < H2.next) ∧ (∀ x ∈ D, ∀ y ∈ D, ∀ id, x.nid = some id → y.nid = some id → x.it.i = y.it.i)

/-- Up to the next one that acts. -/
theorem advance {P : Program} {Q : Env → Heap → Prop} : ∀ (R : List It) (e : Env) (H : Heap) (pd : List Pnd), (∀ id, H.next ≤ id → H.blk id = .dead) → cwp P R e H pd Q → Adv P Q R e H pd
  | [], e, H, pd, ht, h => ⟨[], [], H, pd, rfl, .inl rfl, h, by simp, Nat.le_refl _, fun _ _ => rfl, ht, fun _ h => h, by simp, by simp, by simp⟩
  | it :: R, e, H, pd, ht, h => by
    cases hk : it.k.acts with
    | true => exact ⟨[], it :: R, H, pd, rfl, .inr ⟨it, R, rfl, hk⟩, h, by simp, Nat.le_refl _, fun _ _ => rfl, ht, fun _ h => h, by simp, by simp, by simp⟩
    | false =>
      -- one step, given what comes of the rest
      have step : ∀ (v : V) (nid : Option Nat) (H1 : Heap) (pd1 : List Pnd), H.next ≤ H1.next → (∀ id, id < H.next → H1.blk id = H.blk id) → (∀ id, H1.next ≤ id → H1.blk id = .dead) → (∀ p ∈ pd, p ∈ pd1) → PendV H1 pd1 e ⟨it, v, nid⟩ →
          (∀ id, nid = some id → H.next ≤ id ∧ id < H1.next) → cwp P R (putE e it.dst v) H1 pd1 Q → Adv P Q (it :: R) e H pd := by
        intro v nid H1 pd1 g1 g2 g3 g4 g5 g6 g7
        obtain ⟨D, R2, H2, pd2, a1, a2, a3, a4, a5, a6, a7, a8, a9, a10, a11⟩ := advance R _ H1 pd1 g3 g7
        refine ⟨⟨it, v, nid⟩ :: D, R2, H2, pd2, by simp [a1], a2, a3, ?_, Nat.le_trans g1 a5, fun id hi => by rw [a6 id (Nat.lt_of_lt_of_le hi g1), g2 id hi], a7, fun p hp => a8 p (g4 p hp), ?_, ?_, ?_⟩
        · intro x hx
          rcases List.mem_cons.1 hx with rfl | hx
          · exact hk
          · exact a4 x hx
        · intro D1 x D3 hD
          cases D1 with
          | nil =>
            simp only [List.nil_append, List.cons.injEq] at hD
            obtain ⟨rfl, rfl⟩ := hD
            refine g5.grow (fun id hid => ?_) (fun id hi => a6 id hi) a5 a8
            refine a6 id ?_
            rcases Nat.lt_or_ge id H1.next with h | h
            · exact h
            · exact absurd (g3 id h) hid
          | cons y D1 =>
            simp only [List.cons_append, List.cons.injEq] at hD
            obtain ⟨rfl, hD⟩ := hD
            exact a9 D1 x D3 hD
        · intro x hx id hid
          rcases List.mem_cons.1 hx with rfl | hx
          · exact ⟨(g6 id hid).1, Nat.lt_of_lt_of_le (g6 id hid).2 a5⟩
          · exact ⟨Nat.le_trans g1 (a10 x hx id hid).1, (a10 x hx id hid).2⟩
        · intro x hx y hy id hxi hyi
          rcases List.mem_cons.1 hx with rfl | hx
          · rcases List.mem_cons.1 hy with rfl | hy
            · rfl
            · exact absurd (g6 id hxi).2 (Nat.not_lt.2 (a10 y hy id hyi).1)
          · rcases List.mem_cons.1 hy with rfl | hy
            · exact absurd (g6 id hyi).2 (Nat.not_lt.2 (a10 x hx id hxi).1)
            · exact a11 x hx y hy id hxi hyi
      unfold cwp at h
      split at h
      · cases h
      · rename_i hw
        exact step V.undef none H pd (Nat.le_refl _) (fun _ _ => rfl) ht (fun _ h => h) (.inl ⟨hw, rfl⟩) (by simp) h
      · rename_i hw
        split at h
        · cases h
        rename_i vs hvs
        rw [if_neg (by simp [hk])] at h
        split at h
        · cases h
        · rename_i v hn
          refine step v none H _ (Nat.le_refl _) (fun _ _ => rfl) ht ?_ (.inr ⟨hw, vs, .val v, hvs, hn, ?_, rfl⟩) (by simp) h
          · intro p hp
            split
            · exact List.mem_cons_of_mem _ hp
            · exact hp
          · intro hr; rw [if_pos hr]; exact List.mem_cons_self
        · rename_i B mk hn
          have hb : ∀ id, id < H.next → (H.push B).blk id = H.blk id := fun id hi => by
            have : id ≠ H.next := Nat.ne_of_lt hi
            simp [Heap.push, this]
          refine step (mk H.next) (some H.next) (H.push B) _ (Nat.le_succ _) hb ?_ ?_ (.inr ⟨hw, vs, .new B mk, hvs, ?_, ?_, H.next, rfl, rfl, Nat.lt_succ_self _, by simp [Heap.push]⟩) ?_ h
          · intro id hi
            have : id ≠ H.next := by simp only [Heap.push] at hi; omega
            simp only [Heap.push, this, if_false]
            exact ht id (by simp only [Heap.push] at hi; omega)
          · intro p hp
            split
            · exact List.mem_cons_of_mem _ hp
            · exact hp
          · refine ne_grow (fun id hid => hb id ?_) hn
            rcases Nat.lt_or_ge id H.next with h | h
            · exact h
            · exact absurd (ht id h) hid
          · intro hr; rw [if_pos hr]; exact List.mem_cons_self
          · intro id hid
            simp at hid
            subst hid
            exact ⟨Nat.le_refl _, Nat.lt_succ_self _⟩

end Go.Cn
