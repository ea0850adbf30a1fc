/- An evaluator of code made ready, whose word is partially known ahead: a printed function's text is what comes of it. -/
import Derived.Test.YtlnpgjfdlefmoaaGreatDoorCnRun
import Derived.Test.YtlnpgjfdlefmoaaGreatDoorCnMake
import Derived.Test.YtlnpgjfdlefmoaaGreatDoorCnFrame
namespace Go.Cn
set_option linter.unusedVariables false
set_option linter.unusedSimpArgs false

/-! ### Small parts -/

def lq (e : Env) (n : Nat) : Option V :=
  match e with
  | [] => none
  | x :: e => match Nat.beq n x.1 with
    | true => some x.2
    | false => lq e n

theorem lq_lk : ∀ (e : Env) (n : Nat), lq e n = lk e n
  | [], _ => rfl
  | (m, v) :: e, n => by
    simp only [lq, lk, beq_eq, lq_lk e n]
    by_cases h : n = m <;> simp [h]

def evq (e : Env) : Opd → Option V
  | .t n => lq e n
  | .c v => some v

def evsq (e : Env) : List Opd → Option (List V)
  | [] => some []
  | x :: xs => match evq e x with
    | some v => match evsq e xs with
      | some vs => some (v :: vs)
      | none => none
    | none => none

theorem evq_ev (e : Env) (x : Opd) : evq e x = ev e x := by
  cases x <;> simp [evq, ev, lq_lk]

theorem evsq_evs (e : Env) : ∀ l, evsq e l = evs e l
  | [] => rfl
  | x :: xs => by
    simp only [evsq, evs, evq_ev, evsq_evs e xs]
    cases ev e x <;> cases evs e xs <;> rfl

def Sub (e e' : Env) : Prop := ∀ t v, lk e t = some v → lk e' t = some v

theorem Sub.refl (e : Env) : Sub e e := fun _ _ h => h

theorem Sub.put {e e' : Env} (h : Sub e e') (d : Option Nat) (v : V) : Sub (putE e d v) (putE e' d v) := by
  cases d with
  | none => exact h
  | some d =>
    intro t u hu
    simp only [putE, lk] at hu ⊢
    split at hu
    · rename_i ht; rw [if_pos ht]; exact hu
    · rename_i ht; rw [if_neg ht]; exact h t u hu

theorem Sub.ev {e e' : Env} (h : Sub e e') {x : Opd} {v : V} (hv : evq e x = some v) : Go.Cn.ev e' x = some v := by
  rw [evq_ev] at hv
  cases x with
  | t n => exact h n v hv
  | c u => exact hv

theorem Sub.evs {e e' : Env} (h : Sub e e') : ∀ {l : List Opd} {vs : List V}, evsq e l = some vs → Go.Cn.evs e' l = some vs
  | [], vs, hv => hv
  | x :: xs, vs, hv => by
    simp only [evsq] at hv
    split at hv
    case h_2 => cases hv
    rename_i v h1
    split at hv
    case h_2 => cases hv
    rename_i us h2
    cases hv
    simp only [Go.Cn.evs, h.ev h1, h.evs h2]

/-! ### Regions -/

noncomputable def evR (fns : Fns) : List It → DP → (Env → HT → Option J) → Env → HT → Option J
  | [], _, K, e, h => K e h
  | it :: rest, pd, K, e, h =>
    match evsq e it.ys with
    | none => none
    | some vs =>
      match it.g with
      | none =>
        match it.k.mode with
        | .mov => match vs with
          | [v] => evR fns rest pd K (putE e it.dst v) h
          | _ => none
        | .val => bndV (it.k.nq h vs) fun v => evR fns rest (pdV it.k it.i vs v pd) K (putE e it.dst v) h
        | .new => bndN (it.k.nq h vs) h fun v h' => evR fns rest (pdV it.k it.i vs v pd) K (putE e it.dst v) h'
        | .act => bndE (it.k.td h vs) h fun v h' => chks (pdK it.keep pd) h' (evR fns rest (pdK it.keep pd) K (putE e it.dst v) h')
        | .call f => bndC (fns f vs h) fun v h' => chks (pdK it.keep pd) h' (evR fns rest (pdK it.keep pd) K (putE e it.dst v) h')
        | .callv => bndC (callvT fns vs h) fun v h' => chks (pdK it.keep pd) h' (evR fns rest (pdK it.keep pd) K (putE e it.dst v) h')
        | .nxt => bndE (dNx h vs) h fun v h' => chks (pdK it.keep pd) h' (evR fns rest (pdK it.keep pd) K (putE e it.dst v) h')
        | .bad => none
      | some (d, want) =>
        match lq e d with
        | none => none
        | some g => bndC (gsel g want (opRes fns it.k vs h) h) fun v h' =>
          if it.k.acts then chks (pdK it.keep pd) h' (evR fns rest pd K (putE e it.dst v) h')
          else evR fns rest (pdG it.k it.i g want vs v pd) K (putE e it.dst v) h'

/-! ### Code -/

inductive DC where
  | skip
  | reg (L : List It)
  | seq (a b : DC)
  | cond (c : Opd) (a b : DC)
  | block (id : Nat) (a : DC)
  | loop (li : List Nat) (outs : List (AEx × List Nat)) (a : DC)
  | join (outs : List (AEx × List Nat)) (a : DC)
  | exit (id : Nat)
  | ret

def DC.ac : DC → AC
  | .skip => .skip
  | .reg L => .reg L
  | .seq a b => .seq a.ac b.ac
  | .cond c a b => .cond c a.ac b.ac
  | .block id a => .block id a.ac
  | .loop _ _ a => .loop a.ac
  | .join _ a => a.ac
  | .exit id => .exit id
  | .ret => .ret

def AEx.same : AEx → AEx → Bool
  | .normal, .normal => true
  | .ret, .ret => true
  | .exit i, .exit j => Nat.beq i j
  | _, _ => false

theorem AEx.same_ok {a b : AEx} (h : a.same b = true) : a = b := by
  cases a <;> cases b <;> first | rfl | (cases h; done) | skip
  simp only [AEx.same] at h
  rw [Nat.eq_of_beq_eq_true h]

def cut (e : Env) : List Nat → Option (List V)
  | [] => some []
  | t :: ts => match lq e t with
    | some v => match cut e ts with
      | some vs => some (v :: vs)
      | none => none
    | none => none

/-- The words taken up one by one, and told by their slots. -/
noncomputable def mkE0 : List Nat → List V → (Env → Option J) → Option J
  | [], _, k => k []
  | t :: ts, vs, k => unc vs fun v vs => mkE0 ts vs fun e => k ((t, v) :: e)

noncomputable def mkE : List Nat → List V → (Env → Option J) → Option J
  | [], _, k => k []
  | [a], vs, k => unc1 vs fun v => k [(a, v)]
  | [a, b], vs, k => unc2 vs fun v w => k [(a, v), (b, w)]
  | [a, b, c], vs, k => unc3 vs fun v w x => k [(a, v), (b, w), (c, x)]
  | a :: b :: c :: d :: ts, vs, k => unc4 vs fun v w x y vs => mkE ts vs fun e => k ((a, v) :: (b, w) :: (c, x) :: (d, y) :: e)

theorem mkE_eq : ∀ (ts : List Nat) (vs : List V) (k : Env → Option J), mkE ts vs k = mkE0 ts vs k
  | [], vs, k => by simp [mkE, mkE0]
  | [a], vs, k => by
    simp only [mkE, mkE0]
    match vs with
    | [] => rfl
    | _ :: _ => rfl
  | [a, b], vs, k => by
    simp only [mkE, mkE0]
    match vs with
    | [] => rfl
    | [_] => rfl
    | _ :: _ :: _ => rfl
  | [a, b, c], vs, k => by
    simp only [mkE, mkE0]
    match vs with
    | [] => rfl
    | [_] => rfl
    | [_, _] => rfl
    | _ :: _ :: _ :: _ => rfl
  | a :: b :: c :: d :: ts, vs, k => by
    simp only [mkE, mkE0, mkE_eq ts]
    match vs with
    | [] => rfl
    | [_] => rfl
    | [_, _] => rfl
    | [_, _, _] => rfl
    | _ :: _ :: _ :: _ :: _ => rfl

/-- Where it stands among the ways out, and what goes on there. -/
def cutO : List (AEx × List Nat) → AEx → Env → HT → Nat → Option J
  | [], _, _, _, _ => none
  | o :: os, x, e, h, j => match o.1.same x with
    | true => match cut e o.2 with
      | some vs => some ⟨j, vs, h⟩
      | none => none
    | false => cutO os x e h (j + 1)

noncomputable def dsp : List (AEx × List Nat) → (AEx → Env → HT → Option J) → Nat → List V → HT → Option J
  | [], _, _, _, _ => none
  | o :: os, K, j, vs, h => match os with
    | [] => mkE o.2 vs fun e => K o.1 e h
    | _ :: _ => nsw j (mkE o.2 vs fun e => K o.1 e h) fun j => dsp os K j vs h

/-- Without the slots that are set. -/
def dropM (m : Nat) (e : Env) : Env :=
  match e with
  | [] => []
  | x :: e => match Nat.testBit m x.1 with
    | true => dropM m e
    | false => x :: dropM m e

noncomputable def evD (fns : Fns) : DC → (AEx → Env → HT → Option J) → Env → HT → Option J
  | .skip, K, e, h => K .normal e h
  | .reg L, K, e, h => evR fns L [] (K .normal) e h
  | .seq a b, K, e, h => evD fns a (fun x e h => match x with
    | .normal => evD fns b K e h
    | .exit i => K (.exit i) e h
    | .ret => K .ret e h) e h
  | .cond c a b, K, e, h => match evq e c with
    | some v => tstv v (evD fns a K e h) (evD fns b K e h)
    | none => none
  | .block id a, K, e, h => evD fns a (fun x e h => match x with
    | .exit j => match Nat.beq j id with
      | true => K .normal e h
      | false => K (.exit j) e h
    | .normal => K .normal e h
    | .ret => K .ret e h) e h
  | .exit id, K, e, h => K (.exit id) e h
  | .ret, K, e, h => K .ret e h
  | .join outs a, K, e, h => bndJ (evD fns a (fun x e h => cutO outs x e h 0) e h) fun j vs h => dsp outs (fun x e1 h => K x (e1 ++ dropM (maskC a.ac) e) h) j vs h
  | .loop li outs a, K, e, h => match cut e li with
    | none => none
    | some vs => bndJ (loopF (fun rec vs h => mkE li vs fun e1 => evD fns a (fun x e h => match x with
        | .normal => match cut e li with
          | some vs => rec vs h
          | none => none
        | .exit i => cutO outs (.exit i) e h 0
        | .ret => cutO outs .ret e h 0) (e1 ++ dropM (maskC a.ac) e) h) 1000000 vs h) fun j vs h => dsp outs (fun x e1 h => K x (e1 ++ dropM (maskC a.ac) e) h) j vs h

noncomputable def resK : List Rv → (List V → Option J) → Env → HT → Option J
  | [], k, e, h => k []
  | .tmp t :: ts, k, e, h => match lq e t with
    | some v => resK ts (fun vs => k (v :: vs)) e h
    | none => none
  | .cell t n :: ts, k, e, h => match lq e t with
    | some p => bndV (qLd h n [p]) fun v => resK ts (fun vs => k (v :: vs)) e h
    | none => none

def one : List V → V
  | [v] => v
  | vs => .tuple vs

noncomputable def finK (ts : List Rv) : AEx → Env → HT → Option J := fun x e h => match x with
  | .exit _ => none
  | .normal => resK ts (fun vs => ret1 (one vs) h) e h
  | .ret => resK ts (fun vs => ret1 (one vs) h) e h

inductive Ann where
  | no
  | join (outs : List (AEx × List Nat))
  | loop (li : List Nat) (outs : List (AEx × List Nat))

/-- Code with its notes, in the order in which it stands there. -/
def zipD : AC → List Ann → Option (DC × List Ann)
  | .skip, l => some (.skip, l)
  | .reg L, l => some (.reg L, l)
  | .seq a b, l => match zipD a l with
    | some (a, l) => match zipD b l with
      | some (b, l) => some (.seq a b, l)
      | none => none
    | none => none
  | .cond c a b, n :: l => match zipD a l with
    | some (a, l) => match zipD b l with
      | some (b, l) => match n with
        | .no => some (.cond c a b, l)
        | .join outs => some (.join outs (.cond c a b), l)
        | .loop _ _ => none
      | none => none
    | none => none
  | .cond _ _ _, [] => none
  | .block id a, n :: l => match zipD a l with
    | some (a, l) => match n with
      | .no => some (.block id a, l)
      | .join outs => some (.join outs (.block id a), l)
      | .loop _ _ => none
    | none => none
  | .block _ _, [] => none
  | .loop a, n :: l => match zipD a l with
    | some (a, l) => match n with
      | .loop li outs => some (.loop li outs a, l)
      | _ => none
    | none => none
  | .loop _, [] => none
  | .exit id, l => some (.exit id, l)
  | .ret, l => some (.ret, l)

theorem zipD_ac : ∀ {c : AC} {l l' : List Ann} {d : DC}, zipD c l = some (d, l') → d.ac = c
  | .skip, l, l', d, h => by cases h; rfl
  | .reg L, l, l', d, h => by cases h; rfl
  | .seq a b, l, l', d, h => by
    simp only [zipD] at h
    split at h
    case h_2 => cases h
    rename_i a' l1 h1
    split at h
    case h_2 => cases h
    rename_i b' l2 h2
    cases h
    simp only [DC.ac, zipD_ac h1, zipD_ac h2]
  | .cond c a b, [], l', d, h => by cases h
  | .cond c a b, n :: l, l', d, h => by
    simp only [zipD] at h
    split at h
    case h_2 => cases h
    rename_i a' l1 h1
    split at h
    case h_2 => cases h
    rename_i b' l2 h2
    cases n <;> cases h <;> simp only [DC.ac, zipD_ac h1, zipD_ac h2]
  | .block id a, [], l', d, h => by cases h
  | .block id a, n :: l, l', d, h => by
    simp only [zipD] at h
    split at h
    case h_2 => cases h
    rename_i a' l1 h1
    cases n <;> cases h <;> simp only [DC.ac, zipD_ac h1]
  | .loop a, [], l', d, h => by cases h
  | .loop a, n :: l, l', d, h => by
    simp only [zipD] at h
    split at h
    case h_2 => cases h
    rename_i a' l1 h1
    cases n <;> cases h
    simp only [DC.ac, zipD_ac h1]
  | .exit id, l, l', d, h => by cases h; rfl
  | .ret, l, l', d, h => by cases h; rfl

/-- A function's word. 'n': how many arguments. -/
noncomputable def evFun (P : Program) (f : FuncId) (n : Nat) (ann : List Ann) (fns : Fns) (vs : List V) (h : HT) : Option J :=
  match mkFun P f with
  | some (ac, ts) => match zipD ac ann with
    | some (dc, _) => mkE (List.range n) vs fun e => evD fns dc (finK ts) e h
    | none => none
  | none => none

end Go.Cn
