/- Code walked with the abstract machine. -/
import Derived.Test.YtlnpgjfdlefmoaaGreatDoorCnAny3
namespace Go.Cn
set_option linter.unusedVariables false
set_option linter.unusedSimpArgs false
set_option maxHeartbeats 400000

/-- Code made ready. -/
inductive AC where
  | skip
  | reg (L : List It)
  | seq (a b : AC)
  | cond (c : Opd) (a b : AC)
  | block (id : Nat) (a : AC)
  | loop (a : AC)
  | exit (id : Nat)
  | ret

inductive AEx where
  | normal
  | exit (id : Nat)
  | ret

def AEx.then (K : Env → Heap → Prop) (Q : AEx → Env → Heap → Prop) : AEx → Env → Heap → Prop
  | .normal, e, H => K e H
  | x, e, H => Q x e H

def AEx.inBlock (id : Nat) (Q : AEx → Env → Heap → Prop) : AEx → Env → Heap → Prop
  | .exit j, e, H => if j = id then Q .normal e H else Q (.exit j) e H
  | x, e, H => Q x e H

def acwp (P : Program) : AC → (AEx → Env → Heap → Prop) → Env → Heap → Prop
  | .skip, Q, e, H => Q .normal e H
  | .reg L, Q, e, H => cwp P L e H [] (Q .normal)
  | .seq a b, Q, e, H => acwp P a (AEx.then (acwp P b Q) Q) e H
  | .cond c a b, Q, e, H => match ev e c with
    | some (.bool true) => acwp P a Q e H
    | some (.bool false) => acwp P b Q e H
    | _ => False
  | .block id a, Q, e, H => acwp P a (AEx.inBlock id Q) e H
  | .loop a, Q, e, H => ∃ I : Nat → Env → Heap → Prop, (∃ n, I n e H) ∧ ∀ n e H, I n e H → acwp P a (AEx.then (fun e H => ∃ m, m < n ∧ I m e H) Q) e H
  | .exit id, Q, e, H => Q (.exit id) e H
  | .ret, Q, e, H => Q .ret e H

def AEx.ex : AEx → Exit
  | .normal => .normal
  | .exit id => .exit id
  | .ret => .ret

/-- What was made ready stands for the code. -/
inductive Made (P : Program) (N : Nat) : Code → AC → Prop where
  | skip : Made P N .skip .skip
  | label (l : Nat) : Made P N (.label l) .skip
  | draw {id : Nat} {ops : Array Oper} {L : List It} {M : Nat → Nat} (h : Good P ops L M N) : Made P N (.region id ops true) (.reg L)
  | line {id : Nat} {ops : Array Oper} {L : List It} (h : L.map (·.i) = List.range ops.size) (h' : ∀ it ∈ L, ∃ o, ops[it.i]? = some o ∧ ItOk P ops N o it) : Made P N (.region id ops false) (.reg L)
  | seq {x y : Code} {a b : AC} (h : Made P N x a) (h' : Made P N y b) : Made P N (.seq x y) (.seq a b)
  | cond {c : Operand} {x y : Code} {d : Opd} {a b : AC} (hc : opd c = some d) (h : Made P N x a) (h' : Made P N y b) : Made P N (.cond c x y) (.cond d a b)
  | block {id : Nat} {x : Code} {a : AC} (h : Made P N x a) : Made P N (.block id x) (.block id a)
  | loop {x : Code} {a : AC} (h : Made P N x a) : Made P N (.loop x) (.loop a)
  | exit (id : Nat) : Made P N (.exit id) (.exit id)
  | ret : Made P N .ret .ret

section
variable {P : Program} {N : Nat}

/-- A region in its own order. -/
theorem cwp_line {ops : Array Oper} {Q : Env → Heap → Prop} {ρ0 : Ren} {H0 : Heap} {w0 : World} {d0 : List Deferred} {Qx : Exit → Act → World → Prop}
    (hQ : ∀ ρ a w e H, Rel ρ H w → ERel ρ e a → N ≤ a.tmps.size → a.defers = d0 → Ext ρ0 H0 w0 ρ H w → Q e H → Qx .normal a w) :
    ∀ (L : List It), (∀ it ∈ L, ∃ o, ops[it.i]? = some o ∧ ItOk P ops N o it) → ∀ (ρ : Ren) (a : Act) (w : World) (e : Env) (H : Heap) (pd : List Pnd), Rel ρ H w → ERel ρ e a → N ≤ a.tmps.size → a.defers = d0 → Ext ρ0 H0 w0 ρ H w →
      cwp P L e H pd Q → wpOps P ops Qx (L.map (·.i)) a w
  | [], _, ρ, a, w, e, H, pd, hr, he, hN, hd, hx, hc => hQ ρ a w e H hr he hN hd hx hc
  | it :: L, hL, ρ, a, w, e, H, pd, hr, he, hN, hd, hx, hc => by
    obtain ⟨o, ho, hok⟩ := hL it (by simp)
    have hL' : ∀ it ∈ L, ∃ o, ops[it.i]? = some o ∧ ItOk P ops N o it := fun y hy => hL y (by simp [hy])
    have hlt : ∀ d, it.dst = some d → d < a.tmps.size := fun d h => Nat.lt_of_lt_of_le (hok.lt d h) hN
    have go : ∀ (ρ' : Ren) (v : V) (v' : Value) (w' : World) (H' : Heap) (pd' : List Pnd), Rel ρ' H' w' → Ext ρ H w ρ' H' w' → VRel ρ' v v' → cwp P L (putE e it.dst v) H' pd' Q → wpOps P ops Qx (L.map (·.i)) (a.put o.dst v') w' := by
      intro ρ' v v' w' H' pd' hr' hx' hv' hc'
      rw [← hok.dst]
      exact cwp_line hQ L hL' ρ' _ w' _ H' pd' hr' (erel_put (he.mono' hx'.keeps) hv' hlt fun t => lk_putE e it.dst v t) (by rw [put_size]; exact hN) (by rw [put_defers]; exact hd) (hx.trans hx') hc'
    simp only [List.map_cons, wpOps, ho]
    unfold cwp at hc
    split at hc
    · cases hc
    · rename_i hw
      rw [if_neg (by rw [wanted_ok hok he hw]; simp)]
      exact go ρ V.undef undef w H pd hr (Ext.refl ρ H w) VRel.undef hc
    · rename_i hw
      rw [if_pos (wanted_ok hok he hw)]
      refine .inl ?_
      split at hc
      · cases hc
      rename_i vs hvs
      cases hk : it.k.acts with
      | true =>
        rw [if_pos hk] at hc
        refine act_sim (hok.cop hc.notBad) hk he hvs hr hc ?_
        rintro ρ' v v' H' w' hv' hr' hx' ⟨_, hcw⟩
        exact go ρ' v v' w' H' _ hr' hx' hv' hcw
      | false =>
        rw [if_neg (by simp [hk])] at hc
        split at hc
        · cases hc
        · rename_i v hn
          obtain ⟨v', hrun, hv'⟩ := ne_sim (hok.cop (notActs_notBad hk)) hk he hvs hr hn
          unfold Oper.wp
          rw [hrun, Oper.upon_value]
          exact go ρ v v' w H _ hr (Ext.refl ρ H w) hv' hc
        · rename_i B mk hn
          obtain ⟨v', O, w', hrun, hh, hos, hop, n, es, hnew⟩ := ne_sim (hok.cop (notActs_notBad hk)) hk he hvs hr hn
          have hout : ρ H.next = .out := by
            cases h : ρ H.next with
            | out => rfl
            | _ => exact absurd (hr.dom (id := H.next) (by rw [h]; simp)) (Nat.lt_irrefl _)
          obtain ⟨g1, g2⟩ := hnew H.next hout
          have hp := rel_push hr hh hos hop g2
          unfold Oper.wp
          rw [hrun, Oper.upon_value]
          exact go _ _ v' w' _ _ hp.1 hp.2 g1 hc

/-- A region in any order. -/
theorem cwp_draw {id : Nat} {ops : Array Oper} {L : List It} {M : Nat → Nat} (hm : P.follows .mixedOrders = true) (hg : Good P ops L M N) {Q : Env → Heap → Prop} {Qx : Exit → Act → World → Prop}
    {ρ : Ren} {a : Act} {w : World} {e : Env} {H : Heap} (hr : Rel ρ H w) (he : ERel ρ e a) (hN : N ≤ a.tmps.size)
    (hQ : ∀ ρ' a' w' e' H', Rel ρ' H' w' → ERel ρ' e' a' → N ≤ a'.tmps.size → a'.defers = a.defers → Ext ρ H w ρ' H' w' → Q e' H' → Qx .normal a' w') (hc : cwp P L e H [] Q) :
    (Code.region id ops true).wp P Qx a w := by
  refine wp_region_any hm ?_
  obtain ⟨D, R2, H2, pd2, a1, a2, a3, a4, a5, a6, a7, a8, a9, a10, a11⟩ := advance L e H [] hr.top hc
  have hno : ∀ i, (Array.replicate ops.size false).getD i false = false := by
    intro i
    rw [Array.getD_eq_getD_getElem?, Array.getElem?_replicate]
    split <;> rfl
  have hx : Ext ρ H w ρ H { w with drawn := w.drawn + 1 } := Ext.of_same rfl rfl rfl
  have hnil : D.filter (fun x => (Array.replicate ops.size false).getD x.it.i false) = [] := by
    rw [List.filter_eq_nil_iff]
    intro x _
    rw [hno]; simp
  refine any_aux (Q := Q) (e0 := e) (ρ0 := ρ) (H0 := H) (w0 := w) (d0 := a.defers) hg (fun id h => hr.dom h) (fun ρ' a' w' e' H' h1 h2 h3 h4 h5 h6 => hQ ρ' a' w' e' H' h1 h2 h3 h4 h5 h6) ops.size _ a _ ρ H2 D R2 pd2 ?_ ?_
  · exact {
      size := by simp
      split := a1
      down := fun i hi => by rw [hno] at hi; cases hi
      sub := fun it _ => hno it.i
      effD := fun x hx hk => by rw [a4 x hx] at hk; cases hk
      head := a2
      erel := by rw [hnil]; exact he
      asz := hN
      dfr := rfl
      rel := Rel.grow (Rel.of_heap (w' := { w with drawn := w.drawn + 1 }) hr rfl) a5 a6 a7
      ext := hx.grow a5 a6
      pend := fun D1 x D2 hD _ => ⟨a9 D1 x D2 hD, fun id hid => by
        have h3 := a10 x (by rw [hD]; simp) id hid
        cases hq : ρ id with
        | out => rfl
        | _ => exact absurd (hr.dom (id := id) (by rw [hq]; simp)) (Nat.not_lt.2 h3.1)⟩
      ids := a11
      idlt := fun x hx id hid => ⟨(a10 x hx id hid).2, (a10 x hx id hid).1⟩
      cwp := a3 }
  · have h1 : L.filter (fun it => !(Array.replicate ops.size false).getD it.i false) = L := by
      rw [List.filter_eq_self]
      intro it _
      rw [hno]; rfl
    rw [h1]
    exact hg.len

/-- Code walked. -/
theorem acwp_sound (hm : P.follows .mixedOrders = true) {c : Code} {ac : AC} (h : Made P N c ac) : ∀ {Q : AEx → Env → Heap → Prop} {Qx : Exit → Act → World → Prop} {ρ : Ren} {a : Act} {w : World} {e : Env} {H : Heap},
    Rel ρ H w → ERel ρ e a → N ≤ a.tmps.size →
    (∀ x ρ' a' w' e' H', Rel ρ' H' w' → ERel ρ' e' a' → N ≤ a'.tmps.size → a'.defers = a.defers → Ext ρ H w ρ' H' w' → Q x e' H' → Qx x.ex a' w') → acwp P ac Q e H → c.wp P Qx a w := by
  induction h with
  | skip => intro Q Qx ρ a w e H hr he hN hQ hc; exact wp_skip (hQ .normal ρ a w e H hr he hN rfl (Ext.refl ρ H w) hc)
  | label l => intro Q Qx ρ a w e H hr he hN hQ hc; exact wp_label (hQ .normal ρ a w e H hr he hN rfl (Ext.refl ρ H w) hc)
  | draw hg => intro Q Qx ρ a w e H hr he hN hQ hc; exact cwp_draw hm hg hr he hN (fun ρ' a' w' e' H' h1 h2 h3 h4 h5 h6 => hQ .normal ρ' a' w' e' H' h1 h2 h3 h4 h5 h6) hc
  | line h h' =>
    intro Q Qx ρ a w e H hr he hN hQ hc
    refine wp_region ?_
    rw [← h]
    exact cwp_line (d0 := a.defers) (fun ρ' a' w' e' H' h1 h2 h3 h4 h5 h6 => hQ .normal ρ' a' w' e' H' h1 h2 h3 h4 h5 h6) _ h' ρ a w e H [] hr he hN rfl (Ext.refl ρ H w) hc
  | seq h h' ih ih' =>
    intro Q Qx ρ a w e H hr he hN hQ hc
    refine wp_seq (ih hr he hN (fun x ρ' a' w' e' H' h1 h2 h3 h4 h5 h6 => ?_) hc)
    cases x with
    | normal => exact ih' h1 h2 h3 (fun x ρ2 a2 w2 e2 H2 g1 g2 g3 g4 g5 g6 => hQ x ρ2 a2 w2 e2 H2 g1 g2 g3 (g4.trans h4) (h5.trans g5) g6) h6
    | exit id => exact hQ (.exit id) ρ' a' w' e' H' h1 h2 h3 h4 h5 h6
    | ret => exact hQ .ret ρ' a' w' e' H' h1 h2 h3 h4 h5 h6
  | cond hd h h' ih ih' =>
    intro Q Qx ρ a w e H hr he hN hQ hc
    simp only [acwp] at hc
    split at hc
    · rename_i hv
      have := opd_rel he hd hv
      generalize hx : a.eval _ = x at this
      cases this
      exact wp_cond_true hx (ih hr he hN hQ hc)
    · rename_i hv
      have := opd_rel he hd hv
      generalize hx : a.eval _ = x at this
      cases this
      exact wp_cond_false hx (ih' hr he hN hQ hc)
    · cases hc
  | @block id x a h ih =>
    intro Q Qx ρ a w e H hr he hN hQ hc
    refine wp_block (ih hr he hN (fun x ρ' a' w' e' H' h1 h2 h3 h4 h5 h6 => ?_) hc)
    cases x with
    | normal => exact hQ .normal ρ' a' w' e' H' h1 h2 h3 h4 h5 h6
    | exit j =>
      simp only [AEx.inBlock] at h6
      simp only [AEx.ex, Exit.inBlock]
      split
      · rename_i hj
        rw [if_pos hj] at h6
        exact hQ .normal ρ' a' w' e' H' h1 h2 h3 h4 h5 h6
      · rename_i hj
        rw [if_neg hj] at h6
        exact hQ (.exit j) ρ' a' w' e' H' h1 h2 h3 h4 h5 h6
    | ret => exact hQ .ret ρ' a' w' e' H' h1 h2 h3 h4 h5 h6
  | loop h ih =>
    intro Q Qx ρ a w e H hr he hN hQ hc
    obtain ⟨I, ⟨n, hI⟩, hround⟩ := hc
    refine wp_loop_ghost (fun n a' w' => ∃ ρ' e' H', Rel ρ' H' w' ∧ ERel ρ' e' a' ∧ N ≤ a'.tmps.size ∧ a'.defers = a.defers ∧ Ext ρ H w ρ' H' w' ∧ I n e' H') n ⟨ρ, e, H, hr, he, hN, rfl, Ext.refl ρ H w, hI⟩ ?_
    rintro n a1 w1 ⟨ρ1, e1, H1, g1, g2, g3, g4, g5, g6⟩
    refine ih g1 g2 g3 (fun x ρ' a' w' e' H' h1 h2 h3 h4 h5 h6 => ?_) (hround n e1 H1 g6)
    cases x with
    | normal =>
      obtain ⟨m, hmn, hIm⟩ := h6
      exact ⟨m, hmn, ρ', e', H', h1, h2, h3, h4.trans g4, g5.trans h5, hIm⟩
    | exit id => exact hQ (.exit id) ρ' a' w' e' H' h1 h2 h3 (h4.trans g4) (g5.trans h5) h6
    | ret => exact hQ .ret ρ' a' w' e' H' h1 h2 h3 (h4.trans g4) (g5.trans h5) h6
  | exit id => intro Q Qx ρ a w e H hr he hN hQ hc; exact wp_exit (hQ (.exit id) ρ a w e H hr he hN rfl (Ext.refl ρ H w) hc)
  | ret => intro Q Qx ρ a w e H hr he hN hQ hc; exact wp_ret (hQ .ret ρ a w e H hr he hN rfl (Ext.refl ρ H w) hc)

/-- A result: a slot's word, or what stands where a slot points. -/
inductive Rv where
  | tmp (t : Nat)
  | cell (t : Nat) (n : Option Nat)

/-- What is handed back, in the abstract machine's words. -/
def resV (H : Heap) (e : Env) : List Rv → Option (List V)
  | [] => some []
  | .tmp t :: ts => match lk e t, resV H e ts with
    | some v, some vs => some (v :: vs)
    | _, _ => none
  | .cell t n :: ts => match lk e t, resV H e ts with
    | some p, some vs => match kLd H n [p] with
      | some (.val v) => some (v :: vs)
      | _ => none
    | _, _ => none

def resOf (H : Heap) (e : Env) (ts : List Rv) : Option V :=
  match resV H e ts with
  | some [v] => some v
  | some vs => some (.tuple vs)
  | none => none

def resRv (P : Program) : List ResultVar → Option (List Rv)
  | [] => some []
  | .tmp t :: r => (resRv P r).map (.tmp t :: ·)
  | .cell a t :: r => match aggT P t, szT P t with
    | some true, some n => (resRv P r).map (.cell a (some n) :: ·)
    | some false, some _ => (resRv P r).map (.cell a none :: ·)
    | _, _ => none

/-- What stands in the slots at the start. -/
def env0 : Nat → List V → Env
  | _, [] => []
  | i, v :: vs => (i, v) :: env0 (i + 1) vs

theorem lk_env0 : ∀ (vs : List V) (i t : Nat) (v : V), lk (env0 i vs) t = some v → i ≤ t ∧ vs[t - i]? = some v
  | [], i, t, v, h => by cases h
  | u :: vs, i, t, v, h => by
    simp only [env0, lk] at h
    split at h
    · rename_i ht
      subst ht
      cases h
      exact ⟨Nat.le_refl _, by simp⟩
    · rename_i ht
      obtain ⟨h1, h2⟩ := lk_env0 vs (i + 1) t v h
      refine ⟨by omega, ?_⟩
      have : t - i = (t - (i + 1)) + 1 := by omega
      rw [this, List.getElem?_cons_succ]
      exact h2

theorem erel_env0 {ρ : Ren} {vs : List V} {args : Array Value} (h : VRels ρ vs args) (k : Nat) (d : List Deferred) : ERel ρ (env0 0 vs) { tmps := args ++ Array.replicate k undef, defers := d } := by
  refine ⟨fun t v hv => ?_⟩
  obtain ⟨_, h2⟩ := lk_env0 vs 0 t v hv
  simp only [Nat.sub_zero] at h2
  obtain ⟨v', hv', hr⟩ := h.get h2
  have hlt : t < args.size := (Array.getElem?_eq_some_iff.1 hv').1
  rw [Array.getD_eq_getD_getElem?, Array.getElem?_append_left hlt, hv']
  exact hr

theorem loadVar_ok {ρ : Ren} {H : Heap} {w : World} (hr : Rel ρ H w) {t : TypeId} {g : Bool} {n : Nat} (hg : aggT P t = some g) (hz : szT P t = some n) {p v : V} {p' : Value} (hp : VRel ρ p p') (h : kLd H (if g then some n else none) [p] = some (.val v)) :
    ∃ v', (do loadVar t (← asAddr p') : Sem Value).run P w = .ok v' w ∧ VRel ρ v v' := by
  simp only [kLd] at h
  split at h
  case h_2 => cases h
  rename_i id off heq
  simp at heq; subst heq
  obtain ⟨ad, rfl, hpr⟩ := hp.ptr_inv
  cases g with
  | false =>
    simp only [Bool.false_eq_true, if_false] at h
    split at h
    case h_2 => cases h
    rename_i es ro cs hb
    cases hq : cs[off]? with
    | none => simp [hq] at h
    | some u =>
      simp [hq] at h
      subst h
      cases hpr with
      | dead ad hd => rw [hr.dead hd] at hb; cases hb
      | live hl =>
        obtain ⟨u', h1, h2, h3⟩ := run_cell (P := P) hr hl hb hq
        exact ⟨u', by simp only [asAddr, loadVar, Sem.run_bind, Sem.run_pure, Result.andThen_ok, run_isAgg hg, Bool.false_eq_true, if_false, h1], h2⟩
  | true =>
    simp only [if_true] at h
    cases hq : H.row id off n with
    | none => simp [hq] at h
    | some us =>
      simp [hq] at h
      subst h
      cases hpr with
      | dead ad hd => unfold Heap.row at hq; rw [hr.dead hd] at hq; cases hq
      | live hl =>
        obtain ⟨c, h1, h2, h3, h4⟩ := run_row (P := P) hr hl hq
        exact ⟨.agg c, by simp only [asAddr, loadVar, Sem.run_bind, Sem.run_pure, Result.andThen_ok, run_isAgg hg, if_true, run_szT hz, h1], .ofAgg h2 h3⟩

theorem VRels.consL {ρ : Ren} {v : V} {v' : Value} {vs : List V} {vs' : List Value} (h : VRel ρ v v') (t : VRels ρ vs vs'.toArray) : VRels ρ (v :: vs) (v' :: vs').toArray := by
  refine ⟨by simpa using t.1, fun i x x' hx hx' => ?_⟩
  cases i with
  | zero => simp at hx hx'; subst hx; subst hx'; exact h
  | succ i => exact t.2 i x x' (by simpa using hx) (by simpa using hx')

def resM (tmps : Array Value) (l : List ResultVar) : Sem (List Value) := l.mapM fun
  | .tmp t => pure (tmps.getD t undef)
  | .cell x t => do loadVar t (← asAddr (tmps.getD x undef))

theorem run_resList {ρ : Ren} {H : Heap} {w : World} {e : Env} {a : Act} (hr : Rel ρ H w) (he : ERel ρ e a) : ∀ (l : List ResultVar) (ts : List Rv) (vs : List V), resRv P l = some ts → resV H e ts = some vs →
    ∃ vs', (resM a.tmps l).run P w = .ok vs' w ∧ VRels ρ vs vs'.toArray
  | [], ts, vs, h, hv => by cases h; cases hv; exact ⟨[], by simp [resM], VRels.nil⟩
  | .tmp t :: l, ts, vs, h, hv => by
    simp only [resRv, Option.map_eq_some_iff] at h
    obtain ⟨ts', h1, rfl⟩ := h
    simp only [resV] at hv
    split at hv
    case h_2 => cases hv
    rename_i v us hv1 hus
    cases hv
    obtain ⟨vs', h2, h3⟩ := run_resList hr he l ts' us h1 hus
    refine ⟨_, ?_, VRels.consL (he.lk t v hv1) h3⟩
    unfold resM at h2 ⊢
    simp only [List.mapM_cons, Sem.run_bind]
    simp only [Sem.run_pure, Result.andThen_ok, h2]
  | .cell x t :: l, ts, vs, h, hv => by
    have key : ∀ (g : Bool) (n : Nat) (ts' : List Rv), aggT P t = some g → szT P t = some n → resRv P l = some ts' → resV H e (.cell x (if g then some n else none) :: ts') = some vs → ∃ vs', (resM a.tmps (.cell x t :: l)).run P w = .ok vs' w ∧ VRels ρ vs vs'.toArray := by
      intro g n ts' hg hz h1 hv
      simp only [resV] at hv
      split at hv
      case h_2 => cases hv
      rename_i p us hp hus
      split at hv
      case h_2 => cases hv
      rename_i v hk
      cases hv
      obtain ⟨v', h4, h5⟩ := loadVar_ok (P := P) hr hg hz (he.lk x p hp) hk
      obtain ⟨vs', h2, h3⟩ := run_resList hr he l ts' us h1 hus
      refine ⟨v' :: vs', ?_, VRels.consL h5 h3⟩
      unfold resM at h2 ⊢
      rw [List.mapM_cons, Sem.run_bind, h4]
      simp only [Sem.run_bind, Sem.run_pure, Result.andThen_ok, h2]
    simp only [resRv] at h
    split at h
    case h_3 => cases h
    · rename_i n hg hz
      obtain ⟨ts', h1, rfl⟩ := Option.map_eq_some_iff.1 h
      exact key true n ts' hg hz h1 hv
    · rename_i n hg hz
      obtain ⟨ts', h1, rfl⟩ := Option.map_eq_some_iff.1 h
      exact key false n ts' hg hz h1 hv

theorem run_results {ρ : Ren} {H : Heap} {w : World} {e : Env} {a : Act} (hr : Rel ρ H w) (he : ERel ρ e a) {fn : Func} {ts : List Rv} (h : resRv P fn.results.toList = some ts) {v : V} (hv : resOf H e ts = some v) :
    ∃ v', (results fn a.tmps).run P w = .ok v' w ∧ VRel ρ v v' := by
  unfold resOf at hv
  cases hvs : resV H e ts with
  | none => rw [hvs] at hv; cases hv
  | some vs =>
    obtain ⟨vs', h1, h2⟩ := run_resList hr he fn.results.toList ts vs h hvs
    refine ⟨(if h : vs'.toArray.size = 1 then vs'.toArray[0] else .tuple vs'.toArray), ?_, ?_⟩
    · unfold results
      rw [Array.mapM_eq_mapM_toList]
      generalize hmm : (List.mapM _ fn.results.toList : Sem (List Value)) = m
      have hk : m.run P w = .ok vs' w := by rw [← hmm]; exact h1
      simp only [Sem.run_bind, Sem.run_map, hk, Result.andThen_ok]
      rfl
    · rw [hvs] at hv
      split at hv
      · rename_i u hu
        cases hv
        cases hu
        have hsz : vs'.toArray.size = 1 := by rw [← h2.1]; rfl
        rw [dif_pos hsz]
        exact h2.2 0 v _ rfl (by rw [Array.getElem?_eq_getElem])
      · rename_i us hne hu
        cases hv
        cases hu
        have hsz : ¬ vs'.toArray.size = 1 := by
          rw [← h2.1]
          intro h1
          match vs, h1 with
          | [u], _ => exact hne u rfl
        rw [dif_neg hsz]
        exact .ofTuple h2
      · cases hv

/-- A call of a function with a body. -/
theorem callT_of (hm : P.follows .mixedOrders = true) {f : FuncId} {fn : Func} {c : Code} {ac : AC} (hf : P.funcs[f]? = some fn) (hb : fn.body = some c) {ts : List Rv} (hts : resRv P fn.results.toList = some ts) (hac : Made P fn.ntmps c ac)
    {vs : List V} {H : Heap} {K : V → Heap → Prop}
    (h : acwp P ac (fun x e H' => match x with | .exit _ => False | _ => ∃ v, resOf H' e ts = some v ∧ K v H') (env0 0 vs) H) : CallT P f vs H K := by
  intro ρ w args hr hargs
  refine calls_of_wp hf hb ?_
  refine acwp_sound hm hac hr (erel_env0 hargs _ _) (by simp; omega) (fun x ρ' a' w' e' H' h1 h2 h3 h4 h5 h6 => ?_) h
  have fin : (∃ v, resOf H' e' ts = some v ∧ K v H') → a'.defers = [] ∧ ∃ v, (results fn a'.tmps).run P w' = .ok v w' ∧ ∃ ρ'' v0 v' H'', Ending.returned v = .returned v' ∧ VRel ρ'' v0 v' ∧ Rel ρ'' H'' w' ∧ Ext ρ H w ρ'' H'' w' ∧ K v0 H'' := by
    rintro ⟨v, hv, hK⟩
    obtain ⟨v', g1, g2⟩ := run_results h1 h2 hts hv
    exact ⟨h4, v', g1, ρ', v, v', H', rfl, g2, h1, h5, hK⟩
  cases x with
  | normal => exact fin h6
  | exit id => exact h6.elim
  | ret => exact fin h6

theorem CallT.mono {f : FuncId} {vs : List V} {H : Heap} {K K' : V → Heap → Prop} (h : CallT P f vs H K) (hk : ∀ v H', K v H' → K' v H') : CallT P f vs H K' :=
  fun ρ w args hr ha => Calls.mono (h ρ w args hr ha) (by rintro e w' ⟨ρ', v, v', H', a, b, c, d, g⟩; exact ⟨ρ', v, v', H', a, b, c, d, hk v H' g⟩)

end
end Go.Cn
