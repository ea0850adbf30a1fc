/- An evaluator of code made ready, whose word is partially known ahead: a printed function's text is what comes of it. -/
import Derived.Test.YtlnpgjfdlefmoaaGreatDoorCnRun
import Derived.Test.YtlnpgjfdlefmoaaGreatDoorCnMake
import Derived.Test.YtlnpgjfdlefmoaaGreatDoorCnFrame
namespace Go.Cn
set_option linter.unusedVariables false
set_option linter.unusedSimpArgs false

/-! ### Small parts -/

def lq (e : Env) (n : Nat) : Option V :=
  match e with
  | [] => none
  | x :: e => match Nat.beq n x.1 with
    | true => some x.2
    | false => lq e n

theorem lq_lk : ∀ (e : Env) (n : Nat), lq e n = lk e n
  | [], _ => rfl
  | (m, v) :: e, n => by
    simp only [lq, lk, beq_eq, lq_lk e n]
    by_cases h : n = m <;> simp [h]

def evq (e : Env) : Opd → Option V
  | .t n => lq e n
  | .c v => some v

def evsq (e : Env) : List Opd → Option (List V)
  | [] => some []
  | x :: xs => match evq e x with
    | some v => match evsq e xs with
      | some vs => some (v :: vs)
      | none => none
    | none => none

theorem evq_ev (e : Env) (x : Opd) : evq e x = ev e x := by
  cases x <;> simp [evq, ev, lq_lk]

theorem evsq_evs (e : Env) : ∀ l, evsq e l = evs e l
  | [] => rfl
  | x :: xs => by
    simp only [evsq, evs, evq_ev, evsq_evs e xs]
    cases ev e x <;> cases evs e xs <;> rfl

def Sub (e e' : Env) : Prop := ∀ t v, lk e t = some v → lk e' t = some v

theorem Sub.refl (e : Env) : Sub e e := fun _ _ h => h

theorem Sub.put {e e' : Env} (h : Sub e e') (d : Option Nat) (v : V) : Sub (putE e d v) (putE e' d v) := by
  cases d with
  | none => exact h
  | some d =>
    intro t u hu
    simp only [putE, lk] at hu ⊢
    split at hu
    · rename_i ht; rw [if_pos ht]; exact hu
    · rename_i ht; rw [if_neg ht]; exact h t u hu

theorem Sub.ev {e e' : Env} (h : Sub e e') {x : Opd} {v : V} (hv : evq e x = some v) : Go.Cn.ev e' x = some v := by
  rw [evq_ev] at hv
  cases x with
  | t n => exact h n v hv
  | c u => exact hv

theorem Sub.evs {e e' : Env} (h : Sub e e') : ∀ {l : List Opd} {vs : List V}, evsq e l = some vs → Go.Cn.evs e' l = some vs
  | [], vs, hv => hv
  | x :: xs, vs, hv => by
    simp only [evsq] at hv
    split at hv
    case h_2 => cases hv
    rename_i v h1
    split at hv
    case h_2 => cases hv
    rename_i us h2
    cases hv
    simp only [Go.Cn.evs, h.ev h1, h.evs h2]

/-! ### Regions -/

noncomputable def evR (fns : Fns) : List It → DP → (Env → HT → Option J) → Env → HT → Option J
  | [], _, K, e, h => K e h
  | it :: rest, pd, K, e, h =>
    match evsq e it.ys with
    | none => none
    | some vs =>
      match it.g with
      | none =>
        match it.k.mode with
        | .mov => match vs with
          | [v] => evR fns rest pd K (putE e it.dst v) h
          | _ => none
        | .val => bndV (it.k.nq h vs) fun v => evR fns rest (pdV it.k it.i vs v pd) K (putE e it.dst v) h
        | .new => bndN (it.k.nq h vs) h fun v h' => evR fns rest (pdV it.k it.i vs v pd) K (putE e it.dst v) h'
        | .act => bndE (it.k.td h vs) h fun v h' => chks (pdK it.keep pd) h' (evR fns rest (pdK it.keep pd) K (putE e it.dst v) h')
        | .call f => bndC (fns f vs h) fun v h' => chks (pdK it.keep pd) h' (evR fns rest (pdK it.keep pd) K (putE e it.dst v) h')
        | .callv => bndC (callvT fns vs h) fun v h' => chks (pdK it.keep pd) h' (evR fns rest (pdK it.keep pd) K (putE e it.dst v) h')
        | .nxt => bndE (dNx h vs) h fun v h' => chks (pdK it.keep pd) h' (evR fns rest (pdK it.keep pd) K (putE e it.dst v) h')
        | .bad => none
      | some (d, want) =>
        match lq e d with
        | none => none
        | some g => bndC (gsel g want (opRes fns it.k vs h) h) fun v h' =>
          if it.k.acts then chks (pdK it.keep pd) h' (evR fns rest pd K (putE e it.dst v) h')
          else evR fns rest (pdG it.k it.i g want vs v pd) K (putE e it.dst v) h'

/-! ### Code -/

inductive DC where
  | skip
  | reg (L : List It)
  | seq (a b : DC)
  | cond (c : Opd) (a b : DC)
  | block (id : Nat) (a : DC)
  | loop (li : List Nat) (outs : List (AEx × List Nat)) (a : DC)
  | join (outs : List (AEx × List Nat)) (a : DC)
  | exit (id : Nat)
  | ret

def DC.ac : DC → AC
  | .skip => .skip
  | .reg L => .reg L
  | .seq a b => .seq a.ac b.ac
  | .cond c a b => .cond c a.ac b.ac
  | .block id a => .block id a.ac
  | .loop _ _ a => .loop a.ac
  | .join _ a => a.ac
  | .exit id => .exit id
  | .ret => .ret

def AEx.same : AEx → AEx → Bool
  | .normal, .normal => true
  | .ret, .ret => true
  | .exit i, .exit j => Nat.beq i j
  | _, _ => false

theorem AEx.same_ok {a b : AEx} (h : a.same b = true) : a = b := by
  cases a <;> cases b <;> first | rfl | (cases h; done) | skip
  simp only [AEx.same] at h
  rw [Nat.eq_of_beq_eq_true h]

def cut (e : Env) : List Nat → Option (List V)
  | [] => some []
  | t :: ts => match lq e t with
    | some v => match cut e ts with
      | some vs => some (v :: vs)
      | none => none
    | none => none

/-- The words taken up one by one, and told by their slots. -/
noncomputable def mkE0 : List Nat → List V → (Env → Option J) → Option J
  | [], _, k => k []
  | t :: ts, vs, k => unc vs fun v vs => mkE0 ts vs fun e => k ((t, v) :: e)

noncomputable def mkE : List Nat → List V → (Env → Option J) → Option J
  | [], _, k => k []
  | [a], vs, k => unc1 vs fun v => k [(a, v)]
  | [a, b], vs, k => unc2 vs fun v w => k [(a, v), (b, w)]
  | [a, b, c], vs, k => unc3 vs fun v w x => k [(a, v), (b, w), (c, x)]
  | a :: b :: c :: d :: ts, vs, k => unc4 vs fun v w x y vs => mkE ts vs fun e => k ((a, v) :: (b, w) :: (c, x) :: (d, y) :: e)

theorem mkE_eq : ∀ (ts : List Nat) (vs : List V) (k : Env → Option J), mkE ts vs k = mkE0 ts vs k
  | [], vs, k => by simp [mkE, mkE0]
  | [a], vs, k => by
    simp only [mkE, mkE0]
    match vs with
    | [] => rfl
    | _ :: _ => rfl
  | [a, b], vs, k => by
    simp only [mkE, mkE0]
    match vs with
    | [] => rfl
    | [_] => rfl
    | _ :: _ :: _ => rfl
  | [a, b, c], vs, k => by
    simp only [mkE, mkE0]
    match vs with
    | [] => rfl
    | [_] => rfl
    | [_, _] => rfl
    | _ :: _ :: _ :: _ => rfl
  | a :: b :: c :: d :: ts, vs, k => by
    simp only [mkE, mkE0, mkE_eq ts]
    match vs with
    | [] => rfl
    | [_] => rfl
    | [_, _] => rfl
    | [_, _, _] => rfl
    | _ :: _ :: _ :: _ :: _ => rfl

/-- Where it stands among the ways out, and what goes on there. -/
def cutO : List (AEx × List Nat) → AEx → Env → HT → Nat → Option J
  | [], _, _, _, _ => none
  | o :: os, x, e, h, j => match o.1.same x with
    | true => match cut e o.2 with
      | some vs => some ⟨j, vs, h⟩
      | none => none
    | false => cutO os x e h (j + 1)

noncomputable def dsp : List (AEx × List Nat) → (AEx → Env → HT → Option J) → Nat → List V → HT → Option J
  | [], _, _, _, _ => none
  | o :: os, K, j, vs, h => match os with
    | [] => mkE o.2 vs fun e => K o.1 e h
    | _ :: _ => nsw j (mkE o.2 vs fun e => K o.1 e h) fun j => dsp os K j vs h

/-- Without the slots that are set. -/
def dropM (m : Nat) (e : Env) : Env :=
  match e with
  | [] => []
  | x :: e => match Nat.testBit m x.1 with
    | true => dropM m e
    | false => x :: dropM m e

noncomputable def evD (fns : Fns) : DC → (AEx → Env → HT → Option J) → Env → HT → Option J
  | .skip, K, e, h => K .normal e h
  | .reg L, K, e, h => evR fns L [] (K .normal) e h
  | .seq a b, K, e, h => evD fns a (fun x e h => match x with
    | .normal => evD fns b K e h
    | .exit i => K (.exit i) e h
    | .ret => K .ret e h) e h
  | .cond c a b, K, e, h => match evq e c with
    | some v => tstv v (evD fns a K e h) (evD fns b K e h)
    | none => none
  | .block id a, K, e, h => evD fns a (fun x e h => match x with
    | .exit j => match Nat.beq j id with
      | true => K .normal e h
      | false => K (.exit j) e h
    | .normal => K .normal e h
    | .ret => K .ret e h) e h
  | .exit id, K, e, h => K (.exit id) e h
  | .ret, K, e, h => K .ret e h
  | .join outs a, K, e, h => bndJ (evD fns a (fun x e h => cutO outs x e h 0) e h) fun j vs h => dsp outs (fun x e1 h => K x (e1 ++ dropM (maskC a.ac) e) h) j vs h
  | .loop li outs a, K, e, h => match cut e li with
    | none => none
    | some vs => bndJ (loopF (fun rec vs h => mkE li vs fun e1 => evD fns a (fun x e h => match x with
        | .normal => match cut e li with
          | some vs => rec vs h
          | none => none
        | .exit i => cutO outs (.exit i) e h 0
        | .ret => cutO outs .ret e h 0) (e1 ++ dropM (maskC a.ac) e) h) 1000000 vs h) fun j vs h => dsp outs (fun x e1 h => K x (e1 ++ dropM (maskC a.ac) e) h) j vs h

noncomputable def resK : List Rv → (List V → Option J) → Env → HT → Option J
  | [], k, e, h => k []
  | .tmp t :: ts, k, e, h => match lq e t with
    | some v => resK ts (fun vs => k (v :: vs)) e h
    | none => none
  | .cell t n :: ts, k, e, h => match lq e t with
    | some p => bndV (qLd h n [p]) fun v => resK ts (fun vs => k (v :: vs)) e h
    | none => none

def one : List V → V
  | [v] => v
  | vs => .tuple vs

noncomputable def finK (ts : List Rv) : AEx → Env → HT → Option J := fun x e h => match x with
  | .exit _ => none
  | .normal => resK ts (fun vs => ret1 (one vs) h) e h
  | .ret => resK ts (fun vs => ret1 (one vs) h) e h

inductive Ann where
  | no
  | join (outs : List (AEx × List Nat))
  | loop (li : List Nat) (outs : List (AEx × List Nat))

/-- Code with its notes, in the order in which it stands there. -/
def zipD : AC → List Ann → Option (DC × List Ann)
  | .skip, l => some (.skip, l)
  | .reg L, l => some (.reg L, l)
  | .seq a b, l => match zipD a l with
    | some (a, l) => match zipD b l with
      | some (b, l) => some (.seq a b, l)
      | none => none
    | none => none
  | .cond c a b, n :: l => match zipD a l with
    | some (a, l) => match zipD b l with
      | some (b, l) => match n with
        | .no => some (.cond c a b, l)
        | .join outs => some (.join outs (.cond c a b), l)
        | .loop _ _ => none
      | none => none
    | none => none
  | .cond _ _ _, [] => none
  | .block id a, n :: l => match zipD a l with
    | some (a, l) => match n with
      | .no => some (.block id a, l)
      | .join outs => some (.join outs (.block id a), l)
      | .loop _ _ => none
    | none => none
  | .block _ _, [] => none
  | .loop a, n :: l => match zipD a l with
    | some (a, l) => match n with
      | .loop li outs => some (.loop li outs a, l)
      | _ => none
    | none => none
  | .loop _, [] => none
  | .exit id, l => some (.exit id, l)
  | .ret, l => some (.ret, l)

theorem zipD_ac : ∀ {c : AC} {l l' : List Ann} {d : DC}, zipD c l = some (d, l') → d.ac = c
  | .skip, l, l', d, h => by cases h; rfl
  | .reg L, l, l', d, h => by cases h; rfl
  | .seq a b, l, l', d, h => by
    simp only [zipD] at h
    split at h
    case h_2 => cases h
    rename_i a' l1 h1
    split at h
    case h_2 => cases h
    rename_i b' l2 h2
    cases h
    simp only [DC.ac, zipD_ac h1, zipD_ac h2]
  | .cond c a b, [], l', d, h => by cases h
  | .cond c a b, n :: l, l', d, h => by
    simp only [zipD] at h
    split at h
    case h_2 => cases h
    rename_i a' l1 h1
    split at h
    case h_2 => cases h
    rename_i b' l2 h2
    cases n <;> cases h <;> simp only [DC.ac, zipD_ac h1, zipD_ac h2]
  | .block id a, [], l', d, h => by cases h
  | .block id a, n :: l, l', d, h => by
    simp only [zipD] at h
    split at h
    case h_2 => cases h
    rename_i a' l1 h1
    cases n <;> cases h <;> simp only [DC.ac, zipD_ac h1]
  | .loop a, [], l', d, h => by cases h
  | .loop a, n :: l, l', d, h => by
    simp only [zipD] at h
    split at h
    case h_2 => cases h
    rename_i a' l1 h1
    cases n <;> cases h
    simp only [DC.ac, zipD_ac h1]
  | .exit id, l, l', d, h => by cases h; rfl
  | .ret, l, l', d, h => by cases h; rfl

/-- A function's word. 'n': how many arguments. -/
noncomputable def evFun (P : Program) (f : FuncId) (n : Nat) (ann : List Ann) (fns : Fns) (vs : List V) (h : HT) : Option J :=
  match mkFun P f with
  | some (ac, ts) => match zipD ac ann with
    | some (dc, _) => mkE (List.range n) vs fun e => evD fns dc (finK ts) e h
    | none => none
  | none => none

end Go.Cn

/- Why the evaluator's word stands. -/
namespace Go.Cn
set_option linter.unusedVariables false
set_option linter.unusedSimpArgs false
set_option maxHeartbeats 400000

theorem bndV_some {x : Option Eff} {k : V → Option J} {r : J} (h : bndV x k = some r) : ∃ v, x = some (.val v) ∧ k v = some r := by
  match x, h with
  | some (.val v), h => exact ⟨v, rfl, h⟩
  | some (.new _ _), h => cases h
  | none, h => cases h

theorem bndN_some {x : Option Eff} {h0 : HT} {k : V → HT → Option J} {r : J} (h : bndN x h0 k = some r) : ∃ B mk h', x = some (.new B mk) ∧ h0.add B = some h' ∧ k (mk h0.next) h' = some r := by
  match x, h with
  | some (.val v), h => cases h
  | some (.new B mk), h =>
    have h1 : Option.rec (motive := fun _ => Option J) none (fun h' => k (mk h0.next) h') (h0.add B) = some r := h
    cases ha : h0.add B with
    | none => rw [ha] at h1; cases h1
    | some h' => rw [ha] at h1; exact ⟨B, mk, h', rfl, ha, h1⟩
  | none, h => cases h

theorem bndE_some {x : Option (V × Do)} {h0 : HT} {k : V → HT → Option J} {r : J} (h : bndE x h0 k = some r) : ∃ v d h', x = some (v, d) ∧ d.onT h0 = some h' ∧ k v h' = some r := by
  match x, h with
  | some (v, d), h =>
    have h1 : Option.rec (motive := fun _ => Option J) none (fun h' => k v h') (d.onT h0) = some r := h
    cases ha : d.onT h0 with
    | none => rw [ha] at h1; cases h1
    | some h' => rw [ha] at h1; exact ⟨v, d, h', rfl, ha, h1⟩
  | none, h => cases h

theorem bndC_some {x : Option J} {k : V → HT → Option J} {r : J} (h : bndC x k = some r) : ∃ j v l h', x = some ⟨j, v :: l, h'⟩ ∧ k v h' = some r := by
  match x, h with
  | some ⟨j, v :: l, h'⟩, h => exact ⟨j, v, l, h', rfl, h⟩
  | some ⟨_, [], _⟩, h => cases h
  | none, h => cases h

theorem bndJ_some {x : Option J} {k : Nat → List V → HT → Option J} {r : J} (h : bndJ x k = some r) : ∃ j vs h', x = some ⟨j, vs, h'⟩ ∧ k j vs h' = some r := by
  match x, h with
  | some ⟨j, vs, h'⟩, h => exact ⟨j, vs, h', rfl, h⟩
  | none, h => cases h

theorem tstv_some {v : V} {a b : Option J} {r : J} (h : tstv v a b = some r) : (v = .bool true ∧ a = some r) ∨ (v = .bool false ∧ b = some r) := by
  cases v <;> first | (cases h; done) | skip
  rename_i t
  cases t
  · exact .inr ⟨rfl, h⟩
  · exact .inl ⟨rfl, h⟩

theorem unc_some {vs : List V} {k : V → List V → Option J} {r : J} (h : unc vs k = some r) : ∃ v us, vs = v :: us ∧ k v us = some r := by
  match vs, h with
  | v :: us, h => exact ⟨v, us, rfl, h⟩
  | [], h => cases h

theorem gsel_some {g : V} {want : Bool} {f : Option J} {h0 : HT} {r : J} (h : gsel g want f h0 = some r) : (gb g want = some true ∧ f = some r) ∨ (gb g want = some false ∧ ret1 V.undef h0 = some r) := by
  unfold gsel at h
  cases e : gb g want with
  | none => rw [e] at h; cases h
  | some t =>
    rw [e] at h
    cases t with
    | true => exact .inl ⟨rfl, h⟩
    | false => exact .inr ⟨rfl, h⟩

theorem chk1_some {b : Bool} {x : Option J} {r : J} (h : chk1 b x = some r) : b = true ∧ x = some r := by
  cases b with
  | true => exact ⟨rfl, h⟩
  | false => cases h

theorem chks_some : ∀ {l : DP} {h : HT} {x : Option J} {r : J}, chks l h x = some r → (∀ p ∈ l, p.2 h = true) ∧ x = some r
  | [], h, x, r, e => ⟨by simp, e⟩
  | p :: l, h, x, r, e => by
    simp only [chks] at e
    obtain ⟨hp, e⟩ := chk1_some e
    obtain ⟨a, b⟩ := chks_some e
    refine ⟨fun q hq => ?_, b⟩
    rcases List.mem_cons.1 hq with rfl | hq
    · exact hp
    · exact a q hq

theorem pdK_mem {keep : List Nat} : ∀ {l : DP} {q : Nat × (HT → Bool)}, q ∈ l → keep.contains q.1 = true → q ∈ pdK keep l
  | [], q, h, _ => by cases h
  | p :: l, q, h, hk => by
    simp only [pdK]
    rcases List.mem_cons.1 h with rfl | h
    · rw [if_pos hk]; simp
    · split
      · exact List.mem_cons_of_mem _ (pdK_mem h hk)
      · exact pdK_mem h hk

def PdRel (pc : List Pnd) (pd : DP) : Prop := ∀ p ∈ pc, ∃ q ∈ pd, q.1 = p.i ∧ ∀ h', q.2 h' = true → p.k.ne h'.heap p.vs = some p.eff

theorem PdRel.nil {pd : DP} : PdRel [] pd := fun p hp => by cases hp

theorem PdRel.cons {pc : List Pnd} {pd : DP} (h : PdRel pc pd) {p : Pnd} {q : Nat × (HT → Bool)} (h1 : q.1 = p.i) (h2 : ∀ h', q.2 h' = true → p.k.ne h'.heap p.vs = some p.eff) : PdRel (p :: pc) (q :: pd) := by
  intro x hx
  rcases List.mem_cons.1 hx with rfl | hx
  · exact ⟨q, by simp, h1, h2⟩
  · obtain ⟨y, a, b⟩ := h x hx
    exact ⟨y, by simp [a], b⟩

theorem PdRel.more {pc : List Pnd} {pd : DP} (h : PdRel pc pd) (q : Nat × (HT → Bool)) : PdRel pc (q :: pd) :=
  fun x hx => let ⟨y, a, b⟩ := h x hx; ⟨y, by simp [a], b⟩

theorem PdRel.keep {pc : List Pnd} {pd : DP} (h : PdRel pc pd) (keep : List Nat) : PdRel (pc.filter fun p => keep.contains p.i) (pdK keep pd) := by
  intro x hx
  obtain ⟨hx, hk⟩ := List.mem_filter.1 hx
  obtain ⟨y, a, b, c⟩ := h x hx
  exact ⟨y, pdK_mem a (by rw [b]; exact hk), b, c⟩

theorem PdRel.sub {pc : List Pnd} {pd : DP} (h : PdRel pc pd) (f : Pnd → Bool) : PdRel (pc.filter f) pd :=
  fun x hx => h x (List.mem_filter.1 hx).1

theorem PdRel.chk {pc : List Pnd} {pd : DP} (h : PdRel pc pd) {keep : List Nat} {h' : HT} (hc : ∀ q ∈ pdK keep pd, q.2 h' = true) : ∀ p ∈ pc.filter (fun p => keep.contains p.i), p.k.ne h'.heap p.vs = some p.eff := by
  intro p hp
  obtain ⟨y, a, b, c⟩ := h.keep keep p hp
  exact c h' (hc y a)

section
variable {P : Program}

def FnsOk (P : Program) (fns : Fns) : Prop := ∀ f vs h j v l h', fns f vs h = some ⟨j, v :: l, h'⟩ → enters P f = true ∧ CallT P f vs h.heap fun v' H' => v' = v ∧ H' = h'.heap

theorem actT_todo {k : Kind} {h h' : HT} {vs : List V} {v : V} {d : Do} (e : k.todo h vs = some (v, d)) (hd : d.onT h = some h') {K : V → Heap → Prop} (hK : K v h'.heap) : ActT P k vs h.heap K := by
  have e1 := Kind.todo_ok e
  rw [← Do.ok hd] at e1
  cases k <;> first | (cases e; done) | (simp only [ActT]; rw [e1]; exact hK)

theorem actT_call {fns : Fns} (hf : FnsOk P fns) {f : FuncId} {h h' : HT} {vs : List V} {j : Nat} {v : V} {l : List V} (e : fns f vs h = some ⟨j, v :: l, h'⟩) {K : V → Heap → Prop} (hK : K v h'.heap) : ActT P (.call f) vs h.heap K :=
  (hf _ _ _ _ _ _ _ e).2.mono fun v' H' ⟨a, b⟩ => by rw [a, b]; exact hK

theorem actT_callv {fns : Fns} (hf : FnsOk P fns) {h h' : HT} {vs : List V} {j : Nat} {v : V} {l : List V} (e : callvT fns vs h = some ⟨j, v :: l, h'⟩) {K : V → Heap → Prop} (hK : K v h'.heap) : ActT P .callv vs h.heap K := by
  unfold callvT at e
  split at e
  · split at e
    · rename_i f caps
      simp only [ActT]
      obtain ⟨a, b⟩ := hf _ _ _ _ _ _ _ e
      exact ⟨a, b.mono fun v' H' ⟨a, b⟩ => by rw [a, b]; exact hK⟩
    · cases e
  · cases e

theorem actT_nxt {h h' : HT} {vs : List V} {v : V} {d : Do} (e : dNx h vs = some (v, d)) (hd : d.onT h = some h') {K : V → Heap → Prop} (hK : K v h'.heap) : ActT P .nxt vs h.heap K := by
  unfold dNx at e
  split at e
  case h_2 => cases e
  rename_i it
  split at e
  case h_2 => cases e
  rename_i m since seen stepped hit
  split at e
  case h_2 => cases e
  rename_i es clock hm
  split at e
  case h_2 => cases e
  rename_i hcond
  have hc1 : seen = [] ∨ es = [] ∨ ¬ ∀ e ∈ es, stepped ≤ e.2.2 := by
    rw [Bool.or_eq_true, Bool.or_eq_true] at hcond
    rcases hcond with h1 | h1 | h1
    · exact .inl (List.isEmpty_iff.1 h1)
    · exact .inr (.inl (List.isEmpty_iff.1 h1))
    · refine .inr (.inr fun hall => ?_)
      obtain ⟨x, hx, hlt⟩ := List.any_eq_true.1 h1
      have := hall x hx
      have h2 : x.2.2 < stepped := by simpa [Nat.blt_eq] using hlt
      omega
  simp only [ActT, nextV, HT.heap_blk, hit, hm]
  have hdo := Do.ok hd
  split at e
  · rename_i hl
    cases e
    rw [hl]
    refine ⟨hc1, fun _ => ?_, by simp⟩
    rw [hdo] at hK
    exact hK
  · rename_i x l hl
    split at e
    case h_2 => cases e
    split at e
    case h_2 => cases e
    rename_i hlt
    cases e
    have hlt : x.2.2 < since := by simpa [Nat.blt_eq] using hlt
    rw [hl]
    refine ⟨hc1, fun h0 => ?_, fun y hy => ?_⟩
    · have : x ∈ ([x].filter fun e => decide (e.2.2 < since)) := by simp [hlt]
      rw [h0] at this
      cases this
    · obtain rfl := List.mem_singleton.1 hy
      rw [hdo] at hK
      exact hK

/-- What an operation that acts makes. -/
theorem opRes_act {fns : Fns} (hf : FnsOk P fns) {k : Kind} (hk : k.acts = true) {h h' : HT} {vs : List V} {j : Nat} {v : V} {l : List V} (e : opRes fns k vs h = some ⟨j, v :: l, h'⟩) {K : V → Heap → Prop} (hK : K v h'.heap) : ActT P k vs h.heap K := by
  unfold opRes at e
  split at e
  · rename_i hm; rw [Kind.mode_mov hm] at hk; cases hk
  · rename_i hm; rw [Kind.mode_val hm] at hk; cases hk
  · rename_i hm; rw [Kind.mode_new hm] at hk; cases hk
  · obtain ⟨v1, d, h1, a, b, c⟩ := bndE_some e
    simp only [ret1, Option.some.injEq, J.mk.injEq, List.cons.injEq] at c
    obtain ⟨_, ⟨rfl, _⟩, rfl⟩ := c
    exact actT_todo (Kind.td_ok a) b hK
  · rename_i f hm
    rw [Kind.mode_call hm]
    exact actT_call hf e hK
  · rename_i hm
    rw [Kind.mode_callv hm]
    exact actT_callv hf e hK
  · rename_i hm
    rw [Kind.mode_nxt hm]
    obtain ⟨v1, d, h1, a, b, c⟩ := bndE_some e
    simp only [ret1, Option.some.injEq, J.mk.injEq, List.cons.injEq] at c
    obtain ⟨_, ⟨rfl, _⟩, rfl⟩ := c
    exact actT_nxt a b hK
  · cases e

theorem new_same {k : Kind} (hm : k.mode = .new) (hrd : k.reads = true) {h : HT} {vs : List V} {v : V} (hh : sameE (k.nq h vs) v = true) : False := by
  have hx := sameE_ok hh
  have hk : k = .rng := by
    revert hm hrd
    cases k <;> intro hm hrd <;> first | rfl | (cases hm; done) | (cases hrd; done)
  rw [hk] at hx
  simp only [Kind.nq, kRng] at hx
  split at hx
  · split at hx
    · cases hx
    · cases hx
  · cases hx

/-- What an operation that does not act makes. -/
theorem opRes_ne {fns : Fns} {k : Kind} (hk : k.acts = false) {h h' : HT} {vs : List V} {j : Nat} {v : V} {l : List V} (e : opRes fns k vs h = some ⟨j, v :: l, h'⟩) :
    (k.nq h vs = some (.val v) ∧ h' = h) ∨ (k.mode = .new ∧ ∃ B mk, k.nq h vs = some (.new B mk) ∧ h.add B = some h' ∧ v = mk h.next) := by
  unfold opRes at e
  split at e
  · rename_i hm
    obtain ⟨v1, a, c⟩ := bndV_some e
    simp only [ret1, Option.some.injEq, J.mk.injEq, List.cons.injEq] at c
    obtain ⟨_, ⟨rfl, _⟩, rfl⟩ := c
    rw [Kind.mode_mov hm]
    exact .inl ⟨a, rfl⟩
  · obtain ⟨v1, a, c⟩ := bndV_some e
    simp only [ret1, Option.some.injEq, J.mk.injEq, List.cons.injEq] at c
    obtain ⟨_, ⟨rfl, _⟩, rfl⟩ := c
    exact .inl ⟨a, rfl⟩
  · rename_i hm
    obtain ⟨B, mk, h1, a, b, c⟩ := bndN_some e
    simp only [ret1, Option.some.injEq, J.mk.injEq, List.cons.injEq] at c
    obtain ⟨_, ⟨rfl, _⟩, rfl⟩ := c
    exact .inr ⟨hm, B, mk, a, b, rfl⟩
  · rename_i hm; rw [Kind.mode_act hm] at hk; cases hk
  · rename_i f hm; rw [Kind.mode_call hm] at hk; cases hk
  · rename_i hm; rw [Kind.mode_callv hm] at hk; cases hk
  · rename_i hm; rw [Kind.mode_nxt hm] at hk; cases hk
  · cases e

theorem evR_ok {fns : Fns} (hf : FnsOk P fns) {K : Env → HT → Option J} {Q : Env → Heap → Prop} {r : J} (hK : ∀ e1 e2 h1, Sub e1 e2 → K e1 h1 = some r → Q e2 h1.heap) :
    ∀ (L : List It) (pd : DP) (pc : List Pnd) (e e' : Env) (h : HT), Sub e e' → PdRel pc pd → evR fns L pd K e h = some r → cwp P L e' h.heap pc Q
  | [], pd, pc, e, e', h, hs, hp, hr => hK e e' h hs hr
  | it :: rest, pd, pc, e, e', h, hs, hp, hr => by
    have ih := evR_ok hf hK rest
    unfold evR at hr
    unfold cwp
    split at hr
    · cases hr
    rename_i vs hvs
    rw [hs.evs hvs]
    cases hg : it.g with
    | none =>
      rw [hg] at hr
      simp only at hr
      simp only [wantE]
      split at hr
      · rename_i hm
        have hk := Kind.mode_mov hm
        split at hr
        case h_2 => cases hr
        rename_i v
        rw [hk]
        simp only [Kind.acts, Bool.false_eq_true, if_false, Kind.ne, kMov, Kind.reads]
        exact ih _ _ _ _ _ (hs.put it.dst v) hp hr
      · rename_i hm
        rw [Kind.mode_val hm]
        obtain ⟨v, a, b⟩ := bndV_some hr
        simp only [Bool.false_eq_true, if_false]
        rw [Kind.nq_ok a]
        refine ih _ _ _ _ _ (hs.put it.dst v) ?_ b
        unfold pdV
        cases it.k.reads with
        | false => exact hp
        | true => exact hp.cons rfl fun h' hh => Kind.nq_ok (sameE_ok hh)
      · rename_i hm
        rw [Kind.mode_new hm]
        obtain ⟨B, mk, h1, a, b, c⟩ := bndN_some hr
        simp only [Bool.false_eq_true, if_false]
        rw [Kind.nq_ok a]
        obtain ⟨b1, b2⟩ := HT.add_heap b
        have hn : h.heap.next = h.next := rfl
        simp only [hn]
        rw [← b1]
        refine ih _ _ _ _ _ (hs.put it.dst _) ?_ c
        unfold pdV
        cases hrd : it.k.reads with
        | false => exact hp
        | true => exact hp.cons rfl fun h' hh => (new_same hm hrd hh).elim
      · rename_i hm
        rw [Kind.mode_act hm]
        obtain ⟨v, d, h1, a, b, c⟩ := bndE_some hr
        obtain ⟨c1, c2⟩ := chks_some c
        simp only [if_true]
        exact actT_todo (Kind.td_ok a) b ⟨hp.chk c1, ih _ _ _ _ _ (hs.put it.dst v) (hp.keep it.keep) c2⟩
      · rename_i f hm
        have hk := Kind.mode_call hm
        obtain ⟨j, v, l, h1, a, c⟩ := bndC_some hr
        obtain ⟨c1, c2⟩ := chks_some c
        rw [hk]
        simp only [Kind.acts, if_true]
        exact actT_call hf a ⟨hp.chk c1, ih _ _ _ _ _ (hs.put it.dst v) (hp.keep it.keep) c2⟩
      · rename_i hm
        have hk := Kind.mode_callv hm
        obtain ⟨j, v, l, h1, a, c⟩ := bndC_some hr
        obtain ⟨c1, c2⟩ := chks_some c
        rw [hk]
        simp only [Kind.acts, if_true]
        exact actT_callv hf a ⟨hp.chk c1, ih _ _ _ _ _ (hs.put it.dst v) (hp.keep it.keep) c2⟩
      · rename_i hm
        have hk := Kind.mode_nxt hm
        obtain ⟨v, d, h1, a, b, c⟩ := bndE_some hr
        obtain ⟨c1, c2⟩ := chks_some c
        rw [hk]
        simp only [Kind.acts, if_true]
        exact actT_nxt a b ⟨hp.chk c1, ih _ _ _ _ _ (hs.put it.dst v) (hp.keep it.keep) c2⟩
      · cases hr
    | some dw =>
      obtain ⟨d, want⟩ := dw
      rw [hg] at hr
      simp only at hr
      split at hr
      · cases hr
      rename_i g hgv
      obtain ⟨j, v, l, h1, a, c⟩ := bndC_some hr
      have hw : wantE e' (some (d, want)) = gb g want := by
        rw [lq_lk] at hgv
        simp only [wantE, hs d g hgv]
        cases g <;> first | rfl | skip
        rename_i b
        cases want <;> cases b <;> rfl
      rw [hw]
      rcases gsel_some a with ⟨ht, a⟩ | ⟨ht, a⟩
      · rw [ht]
        simp only
        cases hk : it.k.acts with
        | true =>
          rw [hk] at c
          simp only [if_true] at c ⊢
          obtain ⟨c1, c2⟩ := chks_some c
          exact opRes_act hf hk a ⟨hp.chk c1, ih _ _ _ _ _ (hs.put it.dst v) (hp.sub _) c2⟩
        | false =>
          rw [hk] at c
          simp only [Bool.false_eq_true, if_false] at c ⊢
          have hpd : ∀ (x : Eff), (it.k.reads = true → ∀ h', sameE (it.k.nq h' vs) v = true → it.k.ne h'.heap vs = some x) → PdRel (if it.k.reads = true then ⟨it.i, it.k, vs, x⟩ :: pc else pc) (pdG it.k it.i g want vs v pd) := by
            intro x hx
            unfold pdG
            cases hrd : it.k.reads with
            | false => exact hp
            | true =>
              refine hp.cons rfl fun h' hh => hx hrd h' ?_
              simp only [gchk, ht] at hh
              exact hh
          rcases opRes_ne hk a with ⟨a1, rfl⟩ | ⟨hm, B, mk, a1, a2, a3⟩
          · rw [Kind.nq_ok a1]
            exact ih _ _ _ _ _ (hs.put it.dst v) (hpd _ fun _ h' hh => Kind.nq_ok (sameE_ok hh)) c
          · rw [Kind.nq_ok a1]
            have hn : h.heap.next = h.next := rfl
            simp only [hn]
            rw [← (HT.add_heap a2).1, ← a3]
            exact ih _ _ _ _ _ (hs.put it.dst v) (hpd _ fun hrd h' hh => (new_same hm hrd hh).elim) c
      · rw [ht]
        simp only [ret1, Option.some.injEq, J.mk.injEq, List.cons.injEq] at a
        obtain ⟨_, ⟨rfl, _⟩, rfl⟩ := a
        simp only
        cases hk : it.k.acts with
        | true =>
          rw [hk] at c
          simp only [if_true] at c
          obtain ⟨c1, c2⟩ := chks_some c
          exact ih _ _ _ _ _ (hs.put it.dst _) hp c2
        | false =>
          rw [hk] at c
          simp only [Bool.false_eq_true, if_false] at c
          refine ih _ _ _ _ _ (hs.put it.dst _) ?_ c
          unfold pdG
          split
          · exact hp.more _
          · exact hp


theorem cut_put0 {e : Env} : ∀ {live : List Nat} {vs : List V} {k : Env → Option J} {r : J}, cut e live = some vs → mkE0 live vs k = some r → ∃ e1, Sub e1 e ∧ k e1 = some r
  | [], vs, k, r, hc, hm => ⟨[], fun t v h => (by cases h), hm⟩
  | t :: ts, vs, k, r, hc, hm => by
    simp only [cut] at hc
    split at hc
    case h_2 => cases hc
    rename_i v hv
    split at hc
    case h_2 => cases hc
    rename_i us hu
    cases hc
    simp only [mkE0] at hm
    obtain ⟨e1, h1, h2⟩ := cut_put0 hu hm
    refine ⟨_, fun t' v' h => ?_, h2⟩
    simp only [lk] at h
    split at h
    · rename_i ht
      cases h
      rw [ht, ← lq_lk]
      exact hv
    · exact h1 t' v' h

theorem cut_put {e : Env} {live : List Nat} {vs : List V} {k : Env → Option J} {r : J} (hc : cut e live = some vs) (hm : mkE live vs k = some r) : ∃ e1, Sub e1 e ∧ k e1 = some r :=
  cut_put0 hc (by rw [← mkE_eq]; exact hm)

theorem mkE_env0 : ∀ {vs us : List V} {i n : Nat} {k : Env → Option J} {r : J}, mkE0 (List.range' i n) us k = some r → us = vs → ∃ e1, Sub e1 (env0 i vs) ∧ k e1 = some r
  | vs, us, i, 0, k, r, hm, _ => ⟨[], fun t v h => (by cases h), hm⟩
  | vs, us, i, n + 1, k, r, hm, hv => by
    subst hv
    simp only [List.range'_succ, mkE0] at hm
    obtain ⟨v, l, rfl, hm⟩ := unc_some hm
    obtain ⟨e1, h1, h2⟩ := mkE_env0 hm rfl
    refine ⟨_, fun t' v' h => ?_, h2⟩
    simp only [lk, env0] at h ⊢
    split at h
    · rename_i ht; rw [if_pos ht]; exact h
    · rename_i ht; rw [if_neg ht]; exact h1 t' v' h

theorem mkE_env {vs us : List V} {i n : Nat} {k : Env → Option J} {r : J} (hm : mkE (List.range' i n) us k = some r) (hv : us = vs) : ∃ e1, Sub e1 (env0 i vs) ∧ k e1 = some r :=
  mkE_env0 (by rw [← mkE_eq]; exact hm) hv

/-- What a way out notes, its place among the ways makes good. -/
theorem dsp_cut {K : AEx → Env → HT → Option J} {e : Env} {x : AEx} {r : J} : ∀ (os : List (AEx × List Nat)) (h : HT) (i j : Nat) (vs : List V) (h' : HT), cutO os x e h i = some ⟨i + j, vs, h'⟩ → dsp os K j vs h' = some r → h' = h ∧ ∃ e1, Sub e1 e ∧ K x e1 h = some r
  | [], h, i, j, vs, h', hc, hd => by cases hc
  | o :: os, h, i, j, vs, h', hc, hd => by
    simp only [cutO] at hc
    split at hc
    · rename_i hs
      split at hc
      case h_2 => cases hc
      rename_i us hu
      simp only [Option.some.injEq, J.mk.injEq] at hc
      obtain ⟨hj, rfl, rfl⟩ := hc
      have hj0 : j = 0 := by omega
      subst hj0
      have hm : mkE o.2 us (fun e => K o.1 e h) = some r := by
        unfold dsp at hd
        split at hd
        · exact hd
        · exact hd
      obtain ⟨e1, h1, h2⟩ := cut_put hu hm
      rw [AEx.same_ok hs] at h2
      exact ⟨rfl, e1, h1, h2⟩
    · cases os with
      | nil => cases hc
      | cons o' os =>
        have hle : ∀ (os : List (AEx × List Nat)) (i : Nat) (r : J), cutO os x e h i = some r → i ≤ r.j := by
          intro os
          induction os with
          | nil => intro i r h; cases h
          | cons o os ih =>
            intro i r h
            simp only [cutO] at h
            split at h
            · split at h
              · cases h; exact Nat.le_refl _
              · cases h
            · exact Nat.le_of_succ_le (ih _ _ h)
        have h1 := hle _ _ _ hc
        simp only at h1
        obtain ⟨j', rfl⟩ : ∃ j', j = j' + 1 := ⟨j - 1, by omega⟩
        have hc' : cutO (o' :: os) x e h (i + 1) = some ⟨(i + 1) + j', vs, h'⟩ := by rw [hc]; congr 2; omega
        refine dsp_cut (o' :: os) h (i + 1) j' vs h' hc' ?_
        unfold dsp at hd
        exact hd

theorem lk_app : ∀ (e1 e2 : Env) (t : Nat) (v : V), lk (e1 ++ e2) t = some v → lk e1 t = some v ∨ lk e2 t = some v
  | [], e2, t, v, h => .inr h
  | (n, u) :: e1, e2, t, v, h => by
    simp only [List.cons_append, lk] at h ⊢
    split at h
    · rename_i ht; rw [if_pos ht]; exact .inl h
    · rename_i ht; rw [if_neg ht]; exact lk_app e1 e2 t v h

theorem lk_drop {m : Nat} : ∀ (e : Env) (t : Nat) (v : V), lk (dropM m e) t = some v → m.testBit t = false ∧ lk e t = some v
  | [], t, v, h => by cases h
  | (n, u) :: e, t, v, h => by
    simp only [dropM] at h
    split at h
    · rename_i hb
      obtain ⟨h1, h2⟩ := lk_drop e t v h
      refine ⟨h1, ?_⟩
      have : ¬ t = n := fun e => by rw [e, hb] at h1; cases h1
      simp only [lk, if_neg this]
      exact h2
    · rename_i hb
      simp only [lk] at h ⊢
      split at h
      · rename_i ht
        rw [if_pos ht]
        have hb' : m.testBit n = false := by simpa using hb
        exact ⟨by rw [ht]; exact hb', h⟩
      · rename_i ht
        rw [if_neg ht]
        exact lk_drop e t v h

theorem Sub.keep {m : Nat} {e e' e1 e2 : Env} (hs : Sub e e') (ha : Agree m e' e2) (h1 : Sub e1 e2) : Sub (e1 ++ dropM m e) e2 := by
  intro t v ht
  rcases lk_app _ _ t v ht with h | h
  · exact h1 t v h
  · obtain ⟨h2, h3⟩ := lk_drop e t v h
    rw [ha t h2]
    exact hs t v h3

theorem evD_ok {fns : Fns} (hf : FnsOk P fns) : ∀ (dc : DC) {K : AEx → Env → HT → Option J} {Q : AEx → Env → Heap → Prop} {r : J} {e e' : Env} {h : HT}, (∀ x e1 e2 h1, Sub e1 e2 → K x e1 h1 = some r → Q x e2 h1.heap) → Sub e e' → evD fns dc K e h = some r → acwp P dc.ac Q e' h.heap := by
  intro dc
  induction dc with
  | skip => intro K Q r e e' h hK hs hr; exact hK _ _ _ _ hs hr
  | reg L => intro K Q r e e' h hK hs hr; exact evR_ok hf (hK .normal) L [] [] e e' h hs .nil hr
  | exit id => intro K Q r e e' h hK hs hr; exact hK _ _ _ _ hs hr
  | ret => intro K Q r e e' h hK hs hr; exact hK _ _ _ _ hs hr
  | seq a b iha ihb =>
    intro K Q r e e' h hK hs hr
    refine iha (fun x e1 e2 h1 hs1 hr1 => ?_) hs hr
    cases x with
    | normal => exact ihb hK hs1 hr1
    | exit i => exact hK _ _ _ _ hs1 hr1
    | ret => exact hK _ _ _ _ hs1 hr1
  | cond c a b iha ihb =>
    intro K Q r e e' h hK hs hr
    simp only [evD] at hr
    split at hr
    case h_2 => cases hr
    rename_i v hv
    simp only [DC.ac, acwp, hs.ev hv]
    rcases tstv_some hr with ⟨rfl, h1⟩ | ⟨rfl, h1⟩
    · exact iha hK hs h1
    · exact ihb hK hs h1
  | block id a iha =>
    intro K Q r e e' h hK hs hr
    refine iha (fun x e1 e2 h1 hs1 hr1 => ?_) hs hr
    cases x with
    | normal => exact hK _ _ _ _ hs1 hr1
    | exit j =>
      simp only [AEx.inBlock]
      simp only at hr1
      split at hr1
      · rename_i hj
        rw [if_pos (Nat.eq_of_beq_eq_true hj)]
        exact hK _ _ _ _ hs1 hr1
      · rename_i hj
        rw [if_neg (Nat.ne_of_beq_eq_false hj)]
        exact hK _ _ _ _ hs1 hr1
    | ret => exact hK _ _ _ _ hs1 hr1
  | join outs a iha =>
    intro K Q r e e' h hK hs hr
    simp only [evD] at hr
    obtain ⟨j, vs, h1, h2, h3⟩ := bndJ_some hr
    refine acwp_frame (m := maskC a.ac) (e0 := e') a.ac (Q' := fun x e2 H => Agree (maskC a.ac) e' e2 → Q x e2 H) (fun x e2 H ha hx => hx ha) (fun t ht => ht) (Agree.refl _ _) ?_
    refine iha (fun x e1 e2 h' hs1 hr1 hag => ?_) hs h2
    obtain ⟨g1, e3, g2, g3⟩ := dsp_cut outs h' 0 j vs h1 (by rw [hr1]; simp) h3
    exact hK _ _ _ _ (Sub.keep hs hag (fun t v ht => hs1 t v (g2 t v ht))) g3
  | loop li outs a iha =>
    intro K Q r e e' h hK hs hr
    simp only [evD] at hr
    split at hr
    · cases hr
    rename_i vs hvs
    generalize hb : (fun (rec : List V → HT → Option J) vs h => mkE li vs fun e1 => evD fns a (fun x e h => match x with
        | .normal => match cut e li with
          | some vs => rec vs h
          | none => none
        | .exit i => cutO outs (.exit i) e h 0
        | .ret => cutO outs .ret e h 0) (e1 ++ dropM (maskC a.ac) e) h) = body at hr
    obtain ⟨j, us, h1, h2, h3⟩ := bndJ_some hr
    simp only [DC.ac, acwp]
    refine ⟨fun n e2 H => Agree (maskC a.ac) e' e2 ∧ ∃ e1 vs h0 rr, H = h0.heap ∧ Sub e1 e2 ∧ cut e1 li = some vs ∧ loopF body n vs h0 = some rr ∧ dsp outs (fun x e1 h => K x (e1 ++ dropM (maskC a.ac) e) h) rr.j rr.vs rr.h = some r, ⟨1000000, Agree.refl _ _, e, vs, h, _, rfl, hs, hvs, h2, h3⟩, ?_⟩
    rintro n e2 H ⟨hag, e1, vs1, h0, rr, rfl, g2, g3, g4, g5⟩
    cases n with
    | zero => cases g4
    | succ n =>
      have g4' : body (loopF body n) vs1 h0 = some rr := g4
      rw [← hb] at g4'
      obtain ⟨e3, g6, g7⟩ := cut_put g3 g4'
      refine acwp_frame (m := maskC a.ac) (e0 := e') a.ac (Q' := fun x e5 H5 => Agree (maskC a.ac) e' e5 → AEx.then (fun e H => ∃ m, m < n + 1 ∧ (Agree (maskC a.ac) e' e ∧ ∃ e1 vs h0 rr, H = h0.heap ∧ Sub e1 e ∧ cut e1 li = some vs ∧ loopF body m vs h0 = some rr ∧ dsp outs (fun x e1 h => K x (e1 ++ dropM (maskC a.ac) _) h) rr.j rr.vs rr.h = some r)) Q x e5 H5) (fun x e5 H5 ha hx => hx ha) (fun t ht => ht) hag ?_
      refine iha (fun x e4 e5 h' hs1 hr1 hag5 => ?_) (Sub.keep hs hag (fun t v ht => g2 t v (g6 t v ht))) g7
      have out : ∀ y, cutO outs y e4 h' 0 = some rr → Q y e5 h'.heap := by
        intro y hy
        obtain ⟨rj, rvs, rh⟩ := rr
        obtain ⟨k1, e6, k2, k3⟩ := dsp_cut outs h' 0 rj rvs rh (by rw [hy]; simp) g5
        exact hK _ _ _ _ (Sub.keep hs hag5 (fun t v ht => hs1 t v (k2 t v ht))) k3
      cases x with
      | normal =>
        simp only at hr1
        split at hr1
        case h_2 => cases hr1
        rename_i vs2 hv2
        simp only [AEx.then]
        rw [hb] at hr1
        exact ⟨n, Nat.lt_succ_self n, hag5, e4, vs2, h', rr, rfl, hs1, hv2, hr1, g5⟩
      | exit i => exact out _ hr1
      | ret => exact out _ hr1

theorem resK_ok {e e' : Env} (hs : Sub e e') {h : HT} {r : J} : ∀ {ts : List Rv} {k : List V → Option J}, resK ts k e h = some r → ∃ vs, resV h.heap e' ts = some vs ∧ k vs = some r
  | [], k, hr => ⟨[], rfl, hr⟩
  | .tmp t :: ts, k, hr => by
    simp only [resK] at hr
    split at hr
    case h_2 => cases hr
    rename_i v hv
    obtain ⟨vs, h1, h2⟩ := resK_ok hs hr
    refine ⟨v :: vs, ?_, h2⟩
    rw [lq_lk] at hv
    simp only [resV, hs t v hv, h1]
  | .cell t n :: ts, k, hr => by
    simp only [resK] at hr
    split at hr
    case h_2 => cases hr
    rename_i p hp
    obtain ⟨v, h3, h4⟩ := bndV_some hr
    obtain ⟨vs, h1, h2⟩ := resK_ok hs h4
    refine ⟨v :: vs, ?_, h2⟩
    rw [lq_lk] at hp
    simp only [resV, hs t p hp, h1, qLd_ok h3]

theorem one_ok {H : Heap} {e : Env} {ts : List Rv} {vs : List V} (h : resV H e ts = some vs) : resOf H e ts = some (one vs) := by
  unfold resOf
  rw [h]
  match vs with
  | [] => rfl
  | [v] => rfl
  | _ :: _ :: _ => rfl

/-- What the evaluator says of a function's call, every run of it does. -/
theorem evFun_ok (hm : P.follows .mixedOrders = true) {fns : Fns} (hf : FnsOk P fns) {f : FuncId} {n : Nat} {ann : List Ann} {vs : List V} {h : HT} {j : Nat} {v : V} {l : List V} {h' : HT} (e : evFun P f n ann fns vs h = some ⟨j, v :: l, h'⟩) :
    CallT P f vs h.heap fun v' H' => v' = v ∧ H' = h'.heap := by
  unfold evFun at e
  split at e
  case h_2 => cases e
  rename_i ac ts hmk
  split at e
  case h_2 => cases e
  rename_i dc l' hz
  rw [List.range_eq_range'] at e
  obtain ⟨e1, hs, he⟩ := mkE_env (vs := vs) e rfl
  refine callT_fun hm hmk ?_
  rw [← zipD_ac hz]
  refine evD_ok hf dc (fun x e2 e3 h1 hs1 hr1 => ?_) hs he
  have fin : resK ts (fun vs => ret1 (one vs) h1) e2 h1 = some ⟨j, v :: l, h'⟩ → ∃ v', resOf h1.heap e3 ts = some v' ∧ v' = v ∧ h1.heap = h'.heap := by
    intro hr
    obtain ⟨us, g1, g2⟩ := resK_ok hs1 hr
    simp only [ret1, Option.some.injEq, J.mk.injEq, List.cons.injEq] at g2
    obtain ⟨_, ⟨g3, _⟩, g4⟩ := g2
    exact ⟨_, one_ok g1, g3, by rw [g4]⟩
  cases x with
  | normal => exact fin hr1
  | exit i => cases hr1
  | ret => exact fin hr1


/-- A pure function stands for one of the program's. -/
structure FnOk (P : Program) (f : FuncId) (g : List V → HT → Option J) : Prop where
  ent : enters P f = true
  ok : ∀ vs h j v l h', g vs h = some ⟨j, v :: l, h'⟩ → CallT P f vs h.heap fun v' H' => v' = v ∧ H' = h'.heap

inductive TabOk (P : Program) : List (Nat × (List V → HT → Option J)) → Prop where
  | nil : TabOk P []
  | cons {f : FuncId} {g : List V → HT → Option J} {l : List (Nat × (List V → HT → Option J))} (h : FnOk P f g) (t : TabOk P l) : TabOk P ((f, g) :: l)

theorem TabOk.fns {l : List (Nat × (List V → HT → Option J))} (t : TabOk P l) : FnsOk P (tab l) := by
  induction t with
  | nil => intro f vs h j v l h' e; cases e
  | cons hx t ih =>
    intro f' vs h j v l h' e
    simp only [tab] at e
    split at e
    · rename_i hb
      rw [Nat.eq_of_beq_eq_true hb]
      exact ⟨hx.ent, hx.ok _ _ _ _ _ _ e⟩
    · exact ih _ _ _ _ _ _ _ e

theorem FnOk.of (hm : P.follows .mixedOrders = true) {f : FuncId} (he : enters P f = true) {n : Nat} {ann : List Ann} {l : List (Nat × (List V → HT → Option J))} {g : List V → HT → Option J} (e : g = evFun P f n ann (tab l)) (t : TabOk P l) : FnOk P f g :=
  ⟨he, fun vs h j v l h' e' => by rw [e] at e'; exact evFun_ok hm t.fns e'⟩

end
end Go.Cn
