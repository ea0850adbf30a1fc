/- Code walked with the abstract machine. -/
import Derived.Test.YtlnpgjfdlefmoaaGreatDoorCnAny3
namespace Go.Cn
set_option linter.unusedVariables false
set_option linter.unusedSimpArgs false
set_option maxHeartbeats 400000

/-- Code made ready. -/
inductive AC where
  | skip
  | reg (L : List It)
  | seq (a b : AC)
  | cond (c : Opd) (a b : AC)
  | block (id : Nat) (a : AC)
  | loop (a : AC)
  | exit (id : Nat)
  | ret

inductive AEx where
  | normal
  | exit (id : Nat)
  | ret

def AEx.then (K : Env → Heap → Prop) (Q : AEx → Env → Heap → Prop) : AEx → Env → Heap → Prop
  | .normal, e, H => K e H
  | x, e, H => Q x e H

def AEx.inBlock (id : Nat) (Q : AEx → Env → Heap → Prop) : AEx → Env → Heap → Prop
  | .exit j, e, H => if j = id then Q .normal e H else Q (.exit j) e H
  | x, e, H => Q x e H

def acwp (P : Program) : AC → (AEx → Env → Heap → Prop) → Env → Heap → Prop
  | .skip, Q, e, H => Q .normal e H
  | .reg L, Q, e, H => cwp P L e H [] (Q .normal)
  | .seq a b, Q, e, H => acwp P a (AEx.then (acwp P b Q) Q) e H
  | .cond c a b, Q, e, H => match ev e c with
    | some (.bool true) => acwp P a Q e H
    | some (.bool false) => acwp P b Q e H
    | _ => False
  | .block id a, Q, e, H => acwp P a (AEx.inBlock id Q) e H
  | .loop a, Q, e, H => ∃ I : Nat → Env → Heap → Prop, (∃ n, I n e H) ∧ ∀ n e H, I n e H → acwp P a (AEx.then (fun e H => ∃ m, m < n ∧ I m e H) Q) e H
  | .exit id, Q, e, H => Q (.exit id) e H
  | .ret, Q, e, H => Q .ret e H

def AEx.ex : AEx → Exit
  | .normal => .normal
  | .exit id => .exit id
  | .ret => .ret

/-- What was made ready stands for the code. -/
inductive Made (P : Program) (N : Nat) : Code → AC → Prop where
  | skip : Made P N .skip .skip
  | label (l : Nat) : Made P N (.label l) .skip
  | draw {id : Nat} {ops : Array Oper} {L : List It} {M : Nat → Nat} (h : Good P ops L M N) : Made P N (.region id ops true) (.reg L)
  | line {id : Nat} {ops : Array Oper} {L : List It} (h : L.map (·.i) = List.range ops.size) (h' : ∀ it ∈ L, ∃ o, ops[it.i]? = some o ∧ ItOk P ops N o it) : Made P N (.region id ops false) (.reg L)
  | seq {x y : Code} {a b : AC} (h : Made P N x a) (h' : Made P N y b) : Made P N (.seq x y) (.seq a b)
  | cond {c : Operand} {x y : Code} {d : Opd} {a b : AC} (hc : opd c = some d) (h : Made P N x a) (h' : Made P N y b) : Made P N (.cond c x y) (.cond d a b)
  | block {id : Nat} {x : Code} {a : AC} (h : Made P N x a) : Made P N (.block id x) (.block id a)
  | loop {x : Code} {a : AC} (h : Made P N x a) : Made P N (.loop x) (.loop a)
  | exit (id : Nat) : Made P N (.exit id) (.exit id)
  | ret : Made P N .ret .ret

section
variable {P : Program} {N : Nat}

/-- A region in its own order. -/
theorem cwp_line {ops : Array Oper} {Q : Env → Heap → Prop} {ρ0 : Ren} {H0 : Heap} {w0 : World} {d0 : List Deferred} {Qx : Exit → Act → World → Prop}
    (hQ : ∀ ρ a w e H, Rel ρ H w → ERel ρ e a → N ≤ a.tmps.size → a.defers = d0 → Ext ρ0 H0 w0 ρ H w → Q e H → Qx .normal a w) :
    ∀ (L : List It), (∀ it ∈ L, ∃ o, ops[it.i]? = some o ∧ ItOk P ops N o it) → ∀ (ρ : Ren) (a : Act) (w : World) (e : Env) (H : Heap) (pd : List Pnd), Rel ρ H w → ERel ρ e a → N ≤ a.tmps.size → a.defers = d0 → Ext ρ0 H0 w0 ρ H w →
      cwp P L e H pd Q → wpOps P ops Qx (L.map (·.i)) a w
  | [], _, ρ, a, w, e, H, pd, hr, he, hN, hd, hx, hc => hQ ρ a w e H hr he hN hd hx hc
  | it :: L, hL, ρ, a, w, e, H, pd, hr, he, hN, hd, hx, hc => by
    obtain ⟨o, ho, hok⟩ := hL it (by simp)
    have hL' : ∀ it ∈ L, ∃ o, ops[it.i]? = some o ∧ ItOk P ops N o it := fun y hy => hL y (by simp [hy])
    have hlt : ∀ d, it.dst = some d → d < a.tmps.size := fun d h => Nat.lt_of_lt_of_le (hok.lt d h) hN
    have go : ∀ (ρ' : Ren) (v : V) (v' : Value) (w' : World) (H' : Heap) (pd' : List Pnd), Rel ρ' H' w' → Ext ρ H w ρ' H' w' → VRel ρ' v v' → cwp P L (putE e it.dst v) H' pd' Q → wpOps P ops Qx (L.map (·.i)) (a.put o.dst v') w' := by
      intro ρ' v v' w' H' pd' hr' hx' hv' hc'
      rw [← hok.dst]
      exact cwp_line hQ L hL' ρ' _ w' _ H' pd' hr' (erel_put (he.mono' hx'.keeps) hv' hlt fun t => lk_putE e it.dst v t) (by rw [put_size]; exact hN) (by rw [put_defers]; exact hd) (hx.trans hx') hc'
    simp only [List.map_cons, wpOps, ho]
    unfold cwp at hc
    split at hc
    · cases hc
    · rename_i hw
      rw [if_neg (by rw [wanted_ok hok he hw]; simp)]
      exact go ρ V.undef undef w H pd hr (Ext.refl ρ H w) VRel.undef hc
    · rename_i hw
      rw [if_pos (wanted_ok hok he hw)]
      refine .inl ?_
      split at hc
      · cases hc
      rename_i vs hvs
      cases hk : it.k.acts with
      | true =>
        rw [if_pos hk] at hc
        refine act_sim (hok.cop hc.notBad) hk he hvs hr hc ?_
        rintro ρ' v v' H' w' hv' hr' hx' ⟨_, hcw⟩
        exact go ρ' v v' w' H' _ hr' hx' hv' hcw
      | false =>
        rw [if_neg (by simp [hk])] at hc
        split at hc
        · cases hc
        · rename_i v hn
          obtain ⟨v', hrun, hv'⟩ := ne_sim (hok.cop (notActs_notBad hk)) hk he hvs hr hn
          unfold Oper.wp
          rw [hrun, Oper.upon_value]
          exact go ρ v v' w H _ hr (Ext.refl ρ H w) hv' hc
        · rename_i B mk hn
          obtain ⟨v', O, w', hrun, hh, hos, hop, n, es, hnew⟩ := ne_sim (hok.cop (notActs_notBad hk)) hk he hvs hr hn
          have hout : ρ H.next = .out := by
            cases h : ρ H.next with
            | out => rfl
            | _ => exact absurd (hr.dom (id := H.next) (by rw [h]; simp)) (Nat.lt_irrefl _)
          obtain ⟨g1, g2⟩ := hnew H.next hout
          have hp := rel_push hr hh hos hop g2
          unfold Oper.wp
          rw [hrun, Oper.upon_value]
          exact go _ _ v' w' _ _ hp.1 hp.2 g1 hc

/-- A region in any order. -/
theorem cwp_draw {id : Nat} {ops : Array Oper} {L : List It} {M : Nat → Nat} (hm : P.follows .mixedOrders = true) (hg : Good P ops L M N) {Q : Env → Heap → Prop} {Qx : Exit → Act → World → Prop}
    {ρ : Ren} {a : Act} {w : World} {e : Env} {H : Heap} (hr : Rel ρ H w) (he : ERel ρ e a) (hN : N ≤ a.tmps.size)
    (hQ : ∀ ρ' a' w' e' H', Rel ρ' H' w' → ERel ρ' e' a' → N ≤ a'.tmps.size → a'.defers = a.defers → Ext ρ H w ρ' H' w' → Q e' H' → Qx .normal a' w') (hc : cwp P L e H [] Q) :
    (Code.region id ops true).wp P Qx a w := by
  refine wp_region_any hm ?_
  obtain ⟨D, R2, H2, pd2, a1, a2, a3, a4, a5, a6, a7, a8, a9, a10, a11⟩ := advance L e H [] hr.top hc
  have hno : ∀ i, (Array.replicate ops.size false).getD i false = false := by
    intro i
    rw [Array.getD_eq_getD_getElem?, Array.getElem?_replicate]
    split <;> rfl
  have hx : Ext ρ H w ρ H { w with drawn := w.drawn + 1 } := Ext.of_same rfl rfl rfl
  have hnil : D.filter (fun x => (Array.replicate ops.size false).getD x.it.i false) = [] := by
    rw [List.filter_eq_nil_iff]
    intro x _
    rw [hno]; simp
  refine any_aux (Q := Q) (e0 := e) (ρ0 := ρ) (H0 := H) (w0 := w) (d0 := a.defers) hg (fun id h => hr.dom h) (fun ρ' a' w' e' H' h1 h2 h3 h4 h5 h6 => hQ ρ' a' w' e' H' h1 h2 h3 h4 h5 h6) ops.size _ a _ ρ H2 D R2 pd2 ?_ ?_
  · exact {
      size := by simp
      split := a1
      down := fun i hi => by rw [hno] at hi; cases hi
      sub := fun it _ => hno it.i
      effD := fun x hx hk => by rw [a4 x hx] at hk; cases hk
      head := a2
      erel := by rw [hnil]; exact he
      asz := hN
      dfr := rfl
      rel := Rel.grow (Rel.of_heap (w' := { w with drawn := w.drawn + 1 }) hr rfl) a5 a6 a7
      ext := hx.grow a5 a6
      pend := fun D1 x D2 hD _ => ⟨a9 D1 x D2 hD, fun id hid => by
        have h3 := a10 x (by rw [hD]; simp) id hid
        cases hq : ρ id with
        | out => rfl
        | _ => exact absurd (hr.dom (id := id) (by rw [hq]; simp)) (Nat.not_lt.2 h3.1)⟩
      ids := a11
      idlt := fun x hx id hid => ⟨(a10 x hx id hid).2, (a10 x hx id hid).1⟩
      cwp := a3 }
  · have h1 : L.filter (fun it => !(Array.replicate ops.size false).getD it.i false) = L := by
      rw [List.filter_eq_self]
      intro it _
      rw [hno]; rfl
    rw [h1]
    exact hg.len

/-- Code walked. -/
theorem acwp_sound (hm : P.follows .mixedOrders = true) {c : Code} {ac : AC} (h : Made P N c ac) : ∀ {Q : AEx → Env → Heap → Prop} {Qx : Exit → Act → World → Prop} {ρ : Ren} {a : Act} {w : World} {e : Env} {H : Heap},
    Rel ρ H w → ERel ρ e a → N ≤ a.tmps.size →
    (∀ x ρ' a' w' e' H', Rel ρ' H' w' → ERel ρ' e' a' → N ≤ a'.tmps.size → a'.defers = a.defers → Ext ρ H w ρ' H' w' → Q x e' H' → Qx x.ex a' w') → acwp P ac Q e H → c.wp P Qx a w := by
  induction h with
  | skip => intro Q Qx ρ a w e H hr he hN hQ hc; exact wp_skip (hQ .normal ρ a w e H hr he hN rfl (Ext.refl ρ H w) hc)
  | label l => intro Q Qx ρ a w e H hr he hN hQ hc; exact wp_label (hQ .normal ρ a w e H hr he hN rfl (Ext.refl ρ H w) hc)
  | draw hg => intro Q Qx ρ a w e H hr he hN hQ hc; exact cwp_draw hm hg hr he hN (fun ρ' a' w' e' H' h1 h2 h3 h4 h5 h6 => hQ .normal ρ' a' w' e' H' h1 h2 h3 h4 h5 h6) hc
  | line h h' =>
    intro Q Qx ρ a w e H hr he hN hQ hc
    refine wp_region ?_
    rw [← h]
    exact cwp_line (d0 := a.defers) (fun ρ' a' w' e' H' h1 h2 h3 h4 h5 h6 => hQ .normal ρ' a' w' e' H' h1 h2 h3 h4 h5 h6) _ h' ρ a w e H [] hr he hN rfl (Ext.refl ρ H w) hc
  | seq h h' ih ih' =>
    intro Q Qx ρ a w e H hr he hN hQ hc
    refine wp_seq (ih hr he hN (fun x ρ' a' w' e' H' h1 h2 h3 h4 h5 h6 => ?_) hc)
    cases x with
    | normal => exact ih' h1 h2 h3 (fun x ρ2 a2 w2 e2 H2 g1 g2 g3 g4 g5 g6 => hQ x ρ2 a2 w2 e2 H2 g1 g2 g3 (g4.trans h4) (h5.trans g5) g6) h6
    | exit id => exact hQ (.exit id) ρ' a' w' e' H' h1 h2 h3 h4 h5 h6
    | ret => exact hQ .ret ρ' a' w' e' H' h1 h2 h3 h4 h5 h6
  | cond hd h h' ih ih' =>
    intro Q Qx ρ a w e H hr he hN hQ hc
    simp only [acwp] at hc
    split at hc
    · rename_i hv
      have := opd_rel he hd hv
      generalize hx : a.eval _ = x at this
      cases this
      exact wp_cond_true hx (ih hr he hN hQ hc)
    · rename_i hv
      have := opd_rel he hd hv
      generalize hx : a.eval _ = x at this
      cases this
      exact wp_cond_false hx (ih' hr he hN hQ hc)
    · cases hc
  | @block id x a h ih =>
    intro Q Qx ρ a w e H hr he hN hQ hc
    refine wp_block (ih hr he hN (fun x ρ' a' w' e' H' h1 h2 h3 h4 h5 h6 => ?_) hc)
    cases x with
    | normal => exact hQ .normal ρ' a' w' e' H' h1 h2 h3 h4 h5 h6
    | exit j =>
      simp only [AEx.inBlock] at h6
      simp only [AEx.ex, Exit.inBlock]
      split
      · rename_i hj
        rw [if_pos hj] at h6
        exact hQ .normal ρ' a' w' e' H' h1 h2 h3 h4 h5 h6
      · rename_i hj
        rw [if_neg hj] at h6
        exact hQ (.exit j) ρ' a' w' e' H' h1 h2 h3 h4 h5 h6
    | ret => exact hQ .ret ρ' a' w' e' H' h1 h2 h3 h4 h5 h6
  | loop h ih =>
    intro Q Qx ρ a w e H hr he hN hQ hc
    obtain ⟨I, ⟨n, hI⟩, hround⟩ := hc
    refine wp_loop_ghost (fun n a' w' => ∃ ρ' e' H', Rel ρ' H' w' ∧ ERel ρ' e' a' ∧ N ≤ a'.tmps.size ∧ a'.defers = a.defers ∧ Ext ρ H w ρ' H' w' ∧ I n e' H') n ⟨ρ, e, H, hr, he, hN, rfl, Ext.refl ρ H w, hI⟩ ?_
    rintro n a1 w1 ⟨ρ1, e1, H1, g1, g2, g3, g4, g5, g6⟩
    refine ih g1 g2 g3 (fun x ρ' a' w' e' H' h1 h2 h3 h4 h5 h6 => ?_) (hround n e1 H1 g6)
    cases x with
    | normal =>
      obtain ⟨m, hmn, hIm⟩ := h6
      exact ⟨m, hmn, ρ', e', H', h1, h2, h3, h4.trans g4, g5.trans h5, hIm⟩
    | exit id => exact hQ (.exit id) ρ' a' w' e' H' h1 h2 h3 (h4.trans g4) (g5.trans h5) h6
    | ret => exact hQ .ret ρ' a' w' e' H' h1 h2 h3 (h4.trans g4) (g5.trans h5) h6
  | exit id => intro Q Qx ρ a w e H hr he hN hQ hc; exact wp_exit (hQ (.exit id) ρ a w e H hr he hN rfl (Ext.refl ρ H w) hc)
  | ret => intro Q Qx ρ a w e H hr he hN hQ hc; exact wp_ret (hQ .ret ρ a w e H hr he hN rfl (Ext.refl ρ H w) hc)

/-- A result: a slot's word, or what stands where a slot points. -/
inductive Rv where
  | tmp (t : Nat)
  | cell (t : Nat) (n : Option Nat)

/-- What is handed back, in the abstract machine's words. -/
def resV (H : Heap) (e : Env) : List Rv → Option (List V)
  | [] => some []
  | .tmp t :: ts => match lk e t, resV H e ts with
    | some v, some vs => some (v :: vs)
    | _, _ => none
  | .cell t n :: ts => match lk e t, resV H e ts with
    | some p, some vs => match kLd H n [p] with
      | some (.val v) => some (v :: vs)
      | _ => none
    | _, _ => none

def resOf (H : Heap) (e : Env) (ts : List Rv) : Option V :=
  match resV H e ts with
  | some [v] => some v
  | some vs => some (.tuple vs)
  | none => none

def resRv (P : Program) : List ResultVar → Option (List Rv)
  | [] => some []
  | .tmp t :: r => (resRv P r).map (.tmp t :: ·)
  | .cell a t :: r => match aggT P t, szT P t with
    | some true, some n => (resRv P r).map (.cell a (some n) :: ·)
    | some false, some _ => (resRv P r).map (.cell a none :: ·)
    | _, _ => none

/-- What stands in the slots at the start. -/
def env0 : Nat → List V → Env
  | _, [] => []
  | i, v :: vs => (i, v) :: env0 (i + 1) vs

theorem lk_env0 : ∀ (vs : List V) (i t : Nat) (v : V), lk (env0 i vs) t = some v → i ≤ t ∧ vs[t - i]? = some v
  | [], i, t, v, h => by cases h
  | u :: vs, i, t, v, h => by
    simp only [env0, lk] at h
    split at h
    · rename_i ht
      subst ht
      cases h
      exact ⟨Nat.le_refl _, by simp⟩
    · rename_i ht
      obtain ⟨h1, h2⟩ := lk_env0 vs (i + 1) t v h
      refine ⟨by omega, ?_⟩
      have : t - i = (t - (i + 1)) + 1 := by omega
      rw [this, List.getElem?_cons_succ]
      exact h2

theorem erel_env0 {ρ : Ren} {vs : List V} {args : Array Value} (h : VRels ρ vs args) (k : Nat) (d : List Deferred) : ERel ρ (env0 0 vs) { tmps := args ++ Array.replicate k undef, defers := d } := by
  refine ⟨fun t v hv => ?_⟩
  obtain ⟨_, h2⟩ := lk_env0 vs 0 t v hv
  simp only [Nat.sub_zero] at h2
  obtain ⟨v', hv', hr⟩ := h.get h2
  have hlt : t < args.size := (Array.getElem?_eq_some_iff.1 hv').1
  rw [Array.getD_eq_getD_getElem?, Array.getElem?_append_left hlt, hv']
  exact hr

theorem loadVar_ok {ρ : Ren} {H : Heap} {w : World} (hr : Rel ρ H w) {t : TypeId} {g : Bool} {n : Nat} (hg : aggT P t = some g) (hz : szT P t = some n) {p v : V} {p' : Value} (hp : VRel ρ p p') (h : kLd H (if g then some n else none) [p] = some (.val v)) :
    ∃ v', (do loadVar t (← asAddr p') : Sem Value).run P w = .ok v' w ∧ VRel ρ v v' := by
  simp only [kLd] at h
  split at h
  case h_2 => cases h
  rename_i id off heq
  simp at heq; subst heq
  obtain ⟨ad, rfl, hpr⟩ := hp.ptr_inv
  cases g with
  | false =>
    simp only [Bool.false_eq_true, if_false] at h
    split at h
    case h_2 => cases h
    rename_i es ro cs hb
    cases hq : cs[off]? with
    | none => simp [hq] at h
    | some u =>
      simp [hq] at h
      subst h
      cases hpr with
      | dead ad hd => rw [hr.dead hd] at hb; cases hb
      | live hl =>
        obtain ⟨u', h1, h2, h3⟩ := run_cell (P := P) hr hl hb hq
        exact ⟨u', by simp only [asAddr, loadVar, Sem.run_bind, Sem.run_pure, Result.andThen_ok, run_isAgg hg, Bool.false_eq_true, if_false, h1], h2⟩
  | true =>
    simp only [if_true] at h
    cases hq : H.row id off n with
    | none => simp [hq] at h
    | some us =>
      simp [hq] at h
      subst h
      cases hpr with
      | dead ad hd => unfold Heap.row at hq; rw [hr.dead hd] at hq; cases hq
      | live hl =>
        obtain ⟨c, h1, h2, h3, h4⟩ := run_row (P := P) hr hl hq
        exact ⟨.agg c, by simp only [asAddr, loadVar, Sem.run_bind, Sem.run_pure, Result.andThen_ok, run_isAgg hg, if_true, run_szT hz, h1], .ofAgg h2 h3⟩

theorem VRels.consL {ρ : Ren} {v : V} {v' : Value} {vs : List V} {vs' : List Value} (h : VRel ρ v v') (t : VRels ρ vs vs'.toArray) : VRels ρ (v :: vs) (v' :: vs').toArray := by
  refine ⟨by simpa using t.1, fun i x x' hx hx' => ?_⟩
  cases i with
  | zero => simp at hx hx'; subst hx; subst hx'; exact h
  | succ i => exact t.2 i x x' (by simpa using hx) (by simpa using hx')

def resM (tmps : Array Value) (l : List ResultVar) : Sem (List Value) := l.mapM fun
  | .tmp t => pure (tmps.getD t undef)
  | .cell x t => do loadVar t (← asAddr (tmps.getD x undef))

theorem run_resList {ρ : Ren} {H : Heap} {w : World} {e : Env} {a : Act} (hr : Rel ρ H w) (he : ERel ρ e a) : ∀ (l : List ResultVar) (ts : List Rv) (vs : List V), resRv P l = some ts → resV H e ts = some vs →
    ∃ vs', (resM a.tmps l).run P w = .ok vs' w ∧ VRels ρ vs vs'.toArray
  | [], ts, vs, h, hv => by cases h; cases hv; exact ⟨[], by simp [resM], VRels.nil⟩
  | .tmp t :: l, ts, vs, h, hv => by
    simp only [resRv, Option.map_eq_some_iff] at h
    obtain ⟨ts', h1, rfl⟩ := h
    simp only [resV] at hv
    split at hv
    case h_2 => cases hv
    rename_i v us hv1 hus
    cases hv
    obtain ⟨vs', h2, h3⟩ := run_resList hr he l ts' us h1 hus
    refine ⟨_, ?_, VRels.consL (he.lk t v hv1) h3⟩
    unfold resM at h2 ⊢
    simp only [List.mapM_cons, Sem.run_bind]
    simp only [Sem.run_pure, Result.andThen_ok, h2]
  | .cell x t :: l, ts, vs, h, hv => by
    have key : ∀ (g : Bool) (n : Nat) (ts' : List Rv), aggT P t = some g → szT P t = some n → resRv P l = some ts' → resV H e (.cell x (if g then some n else none) :: ts') = some vs → ∃ vs', (resM a.tmps (.cell x t :: l)).run P w = .ok vs' w ∧ VRels ρ vs vs'.toArray := by
      intro g n ts' hg hz h1 hv
      simp only [resV] at hv
      split at hv
      case h_2 => cases hv
      rename_i p us hp hus
      split at hv
      case h_2 => cases hv
      rename_i v hk
      cases hv
      obtain ⟨v', h4, h5⟩ := loadVar_ok (P := P) hr hg hz (he.lk x p hp) hk
      obtain ⟨vs', h2, h3⟩ := run_resList hr he l ts' us h1 hus
      refine ⟨v' :: vs', ?_, VRels.consL h5 h3⟩
      unfold resM at h2 ⊢
      rw [List.mapM_cons, Sem.run_bind, h4]
      simp only [Sem.run_bind, Sem.run_pure, Result.andThen_ok, h2]
    simp only [resRv] at h
    split at h
    case h_3 => cases h
    · rename_i n hg hz
      obtain ⟨ts', h1, rfl⟩ := Option.map_eq_some_iff.1 h
      exact key true n ts' hg hz h1 hv
    · rename_i n hg hz
      obtain ⟨ts', h1, rfl⟩ := Option.map_eq_some_iff.1 h
      exact key false n ts' hg hz h1 hv

theorem run_results {ρ : Ren} {H : Heap} {w : World} {e : Env} {a : Act} (hr : Rel ρ H w) (he : ERel ρ e a) {fn : Func} {ts : List Rv} (h : resRv P fn.results.toList = some ts) {v : V} (hv : resOf H e ts = some v) :
    ∃ v', (results fn a.tmps).run P w = .ok v' w ∧ VRel ρ v v' := by
  unfold resOf at hv
  cases hvs : resV H e ts with
  | none => rw [hvs] at hv; cases hv
  | some vs =>
    obtain ⟨vs', h1, h2⟩ := run_resList hr he fn.results.toList ts vs h hvs
    refine ⟨(if h : vs'.toArray.size = 1 then vs'.toArray[0] else .tuple vs'.toArray), ?_, ?_⟩
    · unfold results
      rw [Array.mapM_eq_mapM_toList]
      generalize hmm : (List.mapM _ fn.results.toList : Sem (List Value)) = m
      have hk : m.run P w = .ok vs' w := by rw [← hmm]; exact h1
      simp only [Sem.run_bind, Sem.run_map, hk, Result.andThen_ok]
      rfl
    · rw [hvs] at hv
      split at hv
      · rename_i u hu
        cases hv
        cases hu
        have hsz : vs'.toArray.size = 1 := by rw [← h2.1]; rfl
        rw [dif_pos hsz]
        exact h2.2 0 v _ rfl (by rw [Array.getElem?_eq_getElem])
      · rename_i us hne hu
        cases hv
        cases hu
        have hsz : ¬ vs'.toArray.size = 1 := by
          rw [← h2.1]
          intro h1
          match vs, h1 with
          | [u], _ => exact hne u rfl
        rw [dif_neg hsz]
        exact .ofTuple h2
      · cases hv

/-- A call of a function with a body. -/
theorem callT_of (hm : P.follows .mixedOrders = true) {f : FuncId} {fn : Func} {c : Code} {ac : AC} (hf : P.funcs[f]? = some fn) (hb : fn.body = some c) {ts : List Rv} (hts : resRv P fn.results.toList = some ts) (hac : Made P fn.ntmps c ac)
    {vs : List V} {H : Heap} {K : V → Heap → Prop}
    (h : acwp P ac (fun x e H' => match x with | .exit _ => False | _ => ∃ v, resOf H' e ts = some v ∧ K v H') (env0 0 vs) H) : CallT P f vs H K := by
  intro ρ w args hr hargs
  refine calls_of_wp hf hb ?_
  refine acwp_sound hm hac hr (erel_env0 hargs _ _) (by simp; omega) (fun x ρ' a' w' e' H' h1 h2 h3 h4 h5 h6 => ?_) h
  have fin : (∃ v, resOf H' e' ts = some v ∧ K v H') → a'.defers = [] ∧ ∃ v, (results fn a'.tmps).run P w' = .ok v w' ∧ ∃ ρ'' v0 v' H'', Ending.returned v = .returned v' ∧ VRel ρ'' v0 v' ∧ Rel ρ'' H'' w' ∧ Ext ρ H w ρ'' H'' w' ∧ K v0 H'' := by
    rintro ⟨v, hv, hK⟩
    obtain ⟨v', g1, g2⟩ := run_results h1 h2 hts hv
    exact ⟨h4, v', g1, ρ', v, v', H', rfl, g2, h1, h5, hK⟩
  cases x with
  | normal => exact fin h6
  | exit id => exact h6.elim
  | ret => exact fin h6

theorem CallT.mono {f : FuncId} {vs : List V} {H : Heap} {K K' : V → Heap → Prop} (h : CallT P f vs H K) (hk : ∀ v H', K v H' → K' v H') : CallT P f vs H K' :=
  fun ρ w args hr ha => Calls.mono (h ρ w args hr ha) (by rintro e w' ⟨ρ', v, v', H', a, b, c, d, g⟩; exact ⟨ρ', v, v', H', a, b, c, d, hk v H' g⟩)

end
end Go.Cn

/- Code made ready by a function, and why it stands for the code. -/
namespace Go.Cn
set_option linter.unusedVariables false
set_option linter.unusedSimpArgs false
set_option maxHeartbeats 400000

/-! ### Who must be ahead of whom -/

/-- All that must be ahead of an operation, one bit each. -/
def ahead (M : Nat → Nat) (o : Oper) : Nat :=
  o.after.toList.foldl (fun s x => if Region.binds .any x then s ||| 2 ^ x.on ||| M x.on else s) 0

def masks (ops : Array Oper) : List Nat :=
  ops.toList.foldl (fun ms o => ms ++ [ahead (fun i => ms.getD i 0) o]) []

theorem ahead_spec (M : Nat → Nat) (o : Oper) {j : Nat} (h : (ahead M o).testBit j = true) : ∃ x ∈ o.after, Region.binds .any x = true ∧ (x.on = j ∨ (M x.on).testBit j = true) := by
  unfold ahead at h
  have key : ∀ (l : List Edge) (s : Nat), (l.foldl (fun s x => if Region.binds .any x then s ||| 2 ^ x.on ||| M x.on else s) s).testBit j = true →
      s.testBit j = true ∨ ∃ x ∈ l, Region.binds .any x = true ∧ (x.on = j ∨ (M x.on).testBit j = true) := by
    intro l
    induction l with
    | nil => intro s h; exact .inl h
    | cons x l ih =>
      intro s h
      rcases ih _ h with h1 | ⟨y, hy, h2⟩
      · dsimp only at h1
        split at h1
        · rename_i hb
          rw [Nat.testBit_or, Nat.testBit_or, Bool.or_eq_true, Bool.or_eq_true] at h1
          rcases h1 with (h1 | h1) | h1
          · exact .inl h1
          · rw [Nat.testBit_two_pow] at h1
            exact .inr ⟨x, by simp, hb, .inl (by simpa using h1)⟩
          · exact .inr ⟨x, by simp, hb, .inr h1⟩
        · exact .inl h1
      · exact .inr ⟨y, by simp [hy], h2⟩
  rcases key _ _ h with h1 | ⟨x, hx, h2⟩
  · simp at h1
  · exact ⟨x, by simpa using hx, h2⟩

/-! ### One operation -/

def guardOf (ops : Array Oper) (o : Oper) : Option (Option (Nat × Bool)) :=
  match o.guard with
  | none => some none
  | some (j, want) => match (ops[j]?).bind (·.dst) with
    | some d => some (some (d, want))
    | none => none

def dstOk (N : Nat) : Option Nat → Bool
  | some d => decide (d < N)
  | none => true

def mkIt (P : Program) (N : Nat) (ops : Array Oper) (i : Nat) (keep : List Nat) : Option It :=
  match ops[i]? with
  | none => none
  | some o => match guardOf ops o with
    | some g => if dstOk N o.dst then (match cop P o with
        | some (k, ys) => some ⟨i, o.dst, g, k, ys, keep⟩
        | none => some ⟨i, o.dst, g, .bad, [], keep⟩) else none
    | none => none

theorem mkIt_ok {P : Program} {N : Nat} {ops : Array Oper} {i : Nat} {keep : List Nat} {it : It} (h : mkIt P N ops i keep = some it) : it.i = i ∧ ∃ o, ops[it.i]? = some o ∧ ItOk P ops N o it := by
  unfold mkIt at h
  split at h
  · cases h
  rename_i o ho
  split at h
  case h_2 => cases h
  rename_i g hg
  split at h
  case isFalse => cases h
  rename_i hlt
  have hd : ∀ d, o.dst = some d → d < N := by
    intro d hd
    rw [hd] at hlt
    simpa [dstOk] using hlt
  have hgd : gOk ops o g := by
    unfold guardOf at hg
    cases hgd : o.guard with
    | none => rw [hgd] at hg; cases hg; exact hgd
    | some jw =>
      obtain ⟨j, want⟩ := jw
      rw [hgd] at hg
      simp only at hg
      split at hg
      case h_2 => cases hg
      rename_i d hd
      cases hg
      exact ⟨j, hgd, hd⟩
  split at h
  · rename_i k ys hc
    cases h
    exact ⟨rfl, o, ho, rfl, hd, hgd, .inr hc⟩
  · cases h
    exact ⟨rfl, o, ho, rfl, hd, hgd, .inl rfl⟩

def mkIts (P : Program) (N : Nat) (ops : Array Oper) : List (Nat × List Nat) → Option (List It)
  | [] => some []
  | (i, keep) :: r => match mkIt P N ops i keep, mkIts P N ops r with
    | some it, some L => some (it :: L)
    | _, _ => none

theorem mkIts_ok {P : Program} {N : Nat} {ops : Array Oper} : ∀ {l : List (Nat × List Nat)} {L : List It}, mkIts P N ops l = some L → L.map (·.i) = l.map (·.1) ∧ ∀ it ∈ L, ∃ o, ops[it.i]? = some o ∧ ItOk P ops N o it
  | [], L, h => by cases h; exact ⟨rfl, by simp⟩
  | (i, keep) :: r, L, h => by
    simp only [mkIts] at h
    split at h
    case h_2 => cases h
    rename_i it L' h1 h2
    cases h
    obtain ⟨a, b⟩ := mkIt_ok h1
    obtain ⟨c, d⟩ := mkIts_ok h2
    refine ⟨by simp [a, c], fun y hy => ?_⟩
    rcases List.mem_cons.1 hy with rfl | hy
    · exact b
    · exact d y hy

/-! ### Our order -/

/-- The next one: the first that does not act, if there is one that is ready. -/
def pickNext (P : Program) (ops : Array Oper) (ms : List Nat) (done : Nat) (acts : List Bool) (left : List Nat) : Option Nat :=
  let ready := left.filter fun i => (ms.getD i 0 ||| done) == done
  match ready.find? fun i => !acts.getD i true with
  | some i => some i
  | none => ready.head?

def orderOf (P : Program) (ops : Array Oper) (ms : List Nat) (acts reads : List Bool) : Nat → Nat → List Nat → List Nat → List (Nat × List Nat)
  | 0, _, _, _ => []
  | fuel + 1, done, rds, left => match pickNext P ops ms done acts left with
    | none => []
    | some i => (i, if acts.getD i true then rds.filter (fun j => !(ms.getD i 0).testBit j) else []) :: orderOf P ops ms acts reads fuel (done ||| 2 ^ i) (if reads.getD i false then rds ++ [i] else rds) (left.filter (· != i))

def kindOf (P : Program) (o : Oper) : Option Kind := (cop P o).map (·.1)

def mkDraw (P : Program) (N : Nat) (ops : Array Oper) : Option (List It) :=
  let ms := masks ops
  let ks := ops.toList.map (kindOf P)
  let acts := ks.map fun k => match k with | some k => k.acts | none => true
  let reads := ks.map fun k => match k with | some k => k.reads | none => false
  mkIts P N ops (orderOf P ops ms acts reads ops.size 0 [] (List.range ops.size))

/-- Each stands behind all that must be ahead of it. -/
def topoOk (ops : Array Oper) : Nat → List It → Bool
  | _, [] => true
  | done, it :: L => (match ops[it.i]? with
      | some o => o.after.toList.all fun x => !Region.binds .any x || done.testBit x.on
      | none => false) && topoOk ops (done ||| 2 ^ it.i) L

def pairsOk (M : Nat → Nat) : List It → Bool
  | [] => true
  | x :: L => L.all (fun y => pairOk M x y) && pairsOk M L

def checkDraw (ops : Array Oper) (L : List It) : Bool :=
  let ms := masks ops
  let M := fun i => ms.getD i 0
  L.length == ops.size && (List.range ops.size).all (fun i => L.any fun it => it.i == i) && decide ((L.map (·.i)).Nodup) &&
    (List.range ops.size).all (fun i => match ops[i]? with | some o => M i == ahead M o | none => false) && topoOk ops 0 L && pairsOk M L

theorem topoOk_spec {ops : Array Oper} : ∀ {L : List It} {done : Nat} {B0 : List It}, topoOk ops done L = true → (∀ j, done.testBit j = true → ∃ y ∈ B0, y.i = j) →
    ∀ A it B, L = A ++ it :: B → ∀ o, ops[it.i]? = some o → ∀ x ∈ o.after, Region.binds .any x = true → ∃ y ∈ B0 ++ A, y.i = x.on
  | [], done, B0, h, hd, A, it, B, hL, o, ho, x, hx, hb => by simp at hL
  | z :: L, done, B0, h, hd, A, it, B, hL, o, ho, x, hx, hb => by
    simp only [topoOk, Bool.and_eq_true] at h
    obtain ⟨h1, h2⟩ := h
    cases A with
    | nil =>
      simp only [List.nil_append, List.cons.injEq] at hL
      obtain ⟨rfl, rfl⟩ := hL
      rw [ho] at h1
      have := List.all_eq_true.1 h1 x (by simpa using hx)
      simp only [hb, Bool.not_true, Bool.false_or] at this
      obtain ⟨y, hy, hyx⟩ := hd _ this
      exact ⟨y, by simpa using hy, hyx⟩
    | cons z' A =>
      simp only [List.cons_append, List.cons.injEq] at hL
      obtain ⟨rfl, hL⟩ := hL
      have hd' : ∀ j, (done ||| 2 ^ z.i).testBit j = true → ∃ y ∈ B0 ++ [z], y.i = j := by
        intro j hj
        rw [Nat.testBit_or, Bool.or_eq_true] at hj
        rcases hj with hj | hj
        · obtain ⟨y, hy, hyj⟩ := hd j hj
          exact ⟨y, by simp [hy], hyj⟩
        · rw [Nat.testBit_two_pow] at hj
          exact ⟨z, by simp, by simpa using hj⟩
      obtain ⟨y, hy, hyx⟩ := topoOk_spec h2 hd' A it B hL o ho x hx hb
      exact ⟨y, by simpa using hy, hyx⟩

theorem pairsOk_spec {M : Nat → Nat} : ∀ {L : List It}, pairsOk M L = true → L.Pairwise fun x y => pairOk M x y = true
  | [], _ => .nil
  | x :: L, h => by
    simp only [pairsOk, Bool.and_eq_true] at h
    exact .cons (fun y hy => List.all_eq_true.1 h.1 y hy) (pairsOk_spec h.2)

theorem checkDraw_ok {P : Program} {N : Nat} {ops : Array Oper} {l : List (Nat × List Nat)} {L : List It} (h : mkIts P N ops l = some L) (hc : checkDraw ops L = true) : Good P ops L (fun i => (masks ops).getD i 0) N := by
  simp only [checkDraw, Bool.and_eq_true, beq_iff_eq, decide_eq_true_eq] at hc
  obtain ⟨⟨⟨⟨⟨h1, h2⟩, h3⟩, h4⟩, h5⟩, h6⟩ := hc
  refine ⟨(mkIts_ok h).2, ?_, h3, h1, ?_, ?_, pairsOk_spec h6⟩
  · intro i hi
    have := List.all_eq_true.1 h2 i (List.mem_range.2 hi)
    obtain ⟨it, hit, hii⟩ := List.any_eq_true.1 this
    exact ⟨it, hit, by simpa using hii⟩
  · intro i o ho j hj
    have hlt := (Array.getElem?_eq_some_iff.1 ho).1
    have := List.all_eq_true.1 h4 i (List.mem_range.2 hlt)
    rw [ho] at this
    simp only [beq_iff_eq] at this
    rw [this] at hj
    exact ahead_spec _ o hj
  · intro A it B hL o ho x hx hb
    obtain ⟨y, hy, hyx⟩ := topoOk_spec (B0 := []) h5 (by simp) A it B hL o ho x hx hb
    exact ⟨y, by simpa using hy, hyx⟩

/-! ### Code -/

def mkCode (P : Program) (N : Nat) : Code → Option AC
  | .skip => some .skip
  | .label _ => some .skip
  | .region _ ops true => match mkDraw P N ops with
    | some L => if checkDraw ops L then some (.reg L) else none
    | none => none
  | .region _ ops false => match mkIts P N ops ((List.range ops.size).map fun i => (i, [])) with
    | some L => some (.reg L)
    | none => none
  | .seq x y => match mkCode P N x, mkCode P N y with
    | some a, some b => some (.seq a b)
    | _, _ => none
  | .cond c x y => match opd c, mkCode P N x, mkCode P N y with
    | some d, some a, some b => some (.cond d a b)
    | _, _, _ => none
  | .block id x => match mkCode P N x with
    | some a => some (.block id a)
    | none => none
  | .loop x => match mkCode P N x with
    | some a => some (.loop a)
    | none => none
  | .exit id => some (.exit id)
  | .ret => some .ret
  | _ => none

theorem mkCode_ok {P : Program} {N : Nat} : ∀ {c : Code} {ac : AC}, mkCode P N c = some ac → Made P N c ac
  | .skip, ac, h => by cases h; exact .skip
  | .label l, ac, h => by cases h; exact .label l
  | .region id ops true, ac, h => by
    simp only [mkCode] at h
    split at h
    case h_2 => cases h
    rename_i L hL
    split at h
    case isFalse => cases h
    rename_i hc
    cases h
    exact .draw (checkDraw_ok hL hc)
  | .region id ops false, ac, h => by
    simp only [mkCode] at h
    split at h
    case h_2 => cases h
    rename_i L hL
    cases h
    obtain ⟨h1, h2⟩ := mkIts_ok hL
    refine .line ?_ h2
    rw [h1, List.map_map]
    exact List.map_id' _
  | .seq x y, ac, h => by
    simp only [mkCode] at h
    split at h
    case h_2 => cases h
    rename_i a b h1 h2
    cases h
    exact .seq (mkCode_ok h1) (mkCode_ok h2)
  | .cond c x y, ac, h => by
    simp only [mkCode] at h
    split at h
    case h_2 => cases h
    rename_i d a b h0 h1 h2
    cases h
    exact .cond h0 (mkCode_ok h1) (mkCode_ok h2)
  | .block id x, ac, h => by
    simp only [mkCode] at h
    split at h
    case h_2 => cases h
    rename_i a h1
    cases h
    exact .block (mkCode_ok h1)
  | .loop x, ac, h => by
    simp only [mkCode] at h
    split at h
    case h_2 => cases h
    rename_i a h1
    cases h
    exact .loop (mkCode_ok h1)
  | .exit id, ac, h => by cases h; exact .exit id
  | .ret, ac, h => by cases h; exact .ret
  | .rangeFunc .., ac, h => by cases h
  | .scope _, ac, h => by cases h
  | .goto _, ac, h => by cases h
  | .refuse _, ac, h => by cases h

/-- A function made ready: its code, its results' slots. -/
def mkFun (P : Program) (f : FuncId) : Option (AC × List Rv) :=
  match P.funcs[f]? with
  | none => none
  | some fn => match fn.body with
    | none => none
    | some c => match mkCode P fn.ntmps c, resRv P fn.results.toList with
      | some ac, some ts => some (ac, ts)
      | _, _ => none

theorem callT_fun {P : Program} (hm : P.follows .mixedOrders = true) {f : FuncId} {ac : AC} {ts : List Rv} (hf : mkFun P f = some (ac, ts)) {vs : List V} {H : Heap} {K : V → Heap → Prop}
    (h : acwp P ac (fun x e H' => match x with | .exit _ => False | _ => ∃ v, resOf H' e ts = some v ∧ K v H') (env0 0 vs) H) : CallT P f vs H K := by
  unfold mkFun at hf
  split at hf
  case h_1 => cases hf
  rename_i fn hfn
  split at hf
  case h_1 => cases hf
  rename_i c hb
  split at hf
  case h_2 => cases hf
  rename_i ac' ts' h1 h2
  cases hf
  exact callT_of hm hfn hb h2 (mkCode_ok h1) h

end Go.Cn
