/- An evaluator of code made ready, whose word is partially known ahead: a printed function's text is what comes of it. -/
import Derived.Test.YtdchnobmkhcccaaGreatDoorCnTreeEf3
namespace Go.Cn
set_option linter.unusedVariables false
set_option linter.unusedSimpArgs false

/-- What comes of a piece: which way it went on, the words that go on, the heap. -/
structure J where
  j : Nat
  vs : List V
  h : HT

abbrev Fns := Nat → List V → HT → Option J

/-! ### Small parts -/

def lq (e : Env) (n : Nat) : Option V :=
  match e with
  | [] => none
  | x :: e => match Nat.beq n x.1 with
    | true => some x.2
    | false => lq e n

theorem lq_lk : ∀ (e : Env) (n : Nat), lq e n = lk e n
  | [], _ => rfl
  | (m, v) :: e, n => by
    simp only [lq, lk, beq_eq, lq_lk e n]
    by_cases h : n = m <;> simp [h]

def evq (e : Env) : Opd → Option V
  | .t n => lq e n
  | .c v => some v

def evsq (e : Env) : List Opd → Option (List V)
  | [] => some []
  | x :: xs => match evq e x with
    | some v => match evsq e xs with
      | some vs => some (v :: vs)
      | none => none
    | none => none

theorem evq_ev (e : Env) (x : Opd) : evq e x = ev e x := by
  cases x <;> simp [evq, ev, lq_lk]

theorem evsq_evs (e : Env) : ∀ l, evsq e l = evs e l
  | [] => rfl
  | x :: xs => by
    simp only [evsq, evs, evq_ev, evsq_evs e xs]
    cases ev e x <;> cases evs e xs <;> rfl

def Sub (e e' : Env) : Prop := ∀ t v, lk e t = some v → lk e' t = some v

theorem Sub.refl (e : Env) : Sub e e := fun _ _ h => h

theorem Sub.put {e e' : Env} (h : Sub e e') (d : Option Nat) (v : V) : Sub (putE e d v) (putE e' d v) := by
  cases d with
  | none => exact h
  | some d =>
    intro t u hu
    simp only [putE, lk] at hu ⊢
    split at hu
    · rename_i ht; rw [if_pos ht]; exact hu
    · rename_i ht; rw [if_neg ht]; exact h t u hu

theorem Sub.ev {e e' : Env} (h : Sub e e') {x : Opd} {v : V} (hv : evq e x = some v) : Go.Cn.ev e' x = some v := by
  rw [evq_ev] at hv
  cases x with
  | t n => exact h n v hv
  | c u => exact hv

theorem Sub.evs {e e' : Env} (h : Sub e e') : ∀ {l : List Opd} {vs : List V}, evsq e l = some vs → Go.Cn.evs e' l = some vs
  | [], vs, hv => hv
  | x :: xs, vs, hv => by
    simp only [evsq] at hv
    split at hv
    case h_2 => cases hv
    rename_i v h1
    split at hv
    case h_2 => cases hv
    rename_i us h2
    cases hv
    simp only [Go.Cn.evs, h.ev h1, h.evs h2]

/-! ### Words told twice -/

def nth : List V → Nat → Option V
  | [], _ => none
  | v :: vs, n => match n with
    | 0 => some v
    | n + 1 => nth vs n

theorem nth_get : ∀ (l : List V) (n : Nat), nth l n = l[n]?
  | [], n => by simp [nth]
  | v :: vs, 0 => rfl
  | v :: vs, n + 1 => by simp [nth, nth_get vs n]

def qLd (h : HT) (n : Option Nat) : List V → Option Eff
  | [.ptr (some (id, o))] => match n with
    | none => match h.blk id with
      | .cells _ _ cs => match nth cs o with
        | some v => some (.val v)
        | none => none
      | _ => none
    | some n => match h.row id o n with
      | some cs => some (.val (.agg cs))
      | none => none
  | _ => none

theorem qLd_ok {h : HT} {n : Option Nat} {vs : List V} {x : Eff} (e : qLd h n vs = some x) : kLd h.heap n vs = some x := by
  unfold qLd at e
  split at e
  case h_2 => cases e
  simp only [kLd]
  split at e
  · rw [HT.heap_blk]
    split at e
    · rename_i hb
      rw [hb]
      split at e
      · rename_i v hv
        cases e
        rw [nth_get] at hv
        simp [hv]
      · cases e
    · cases e
  · split at e
    · rename_i hr
      cases e
      simp [HT.row_ok hr]
    · cases e

/-- A kind that does not act, over a heap as a tree. -/
def Kind.nq (h : HT) (k : Kind) : List V → Option Eff :=
  match k with
  | .mov => kMov
  | .pick => kPick
  | .nilc => kNilc
  | .fa off => kFa off
  | .iaA len esz => kIaA len esz
  | .iaS esz => kIaS esz
  | .ixA len esz agg => kIxA len esz agg
  | .ixStr => kIxStr
  | .fld off sz agg => kFld off sz agg
  | .bin op => kBin op
  | .eqB neg => kEqB neg
  | .eqF neg ks => kEqF neg ks
  | .eqN neg => kEqN neg
  | .un op => kUn op
  | .cvI k => kCvI k
  | .lenS => kLenS
  | .capS => kCapS
  | .lenT => kLenT
  | .lenK n => kLenK n
  | .slS esz lo hi mx => if mx then kSl3 esz else kSlS esz lo hi
  | .slStr lo hi => kSlStr lo hi
  | .ext i => kExt i
  | .bld zero parts => kBld zero parts
  | .mkI t => kMkI t
  | .mkF f => kMkF f
  | .maxI => kMaxI
  | .minI => kMinI
  | .ld n => qLd h n
  | .lkp g ks zero ok => kLkp h.heap g ks zero ok
  | .lenM => kLenM h.heap
  | .b2s => kB2s h.heap
  | .eqP neg => kEqP h.heap neg
  | .ent => kEnt h.heap
  | .rng => kRng h.heap
  | .alloc zero => kAlloc zero
  | .box => kBox
  | .bsl esz len zero parts => kBsl esz len zero parts
  | .mkM => kMkM
  | .mkS esz bytes zero => kMkS esz bytes zero
  | .s2b => kS2b
  | _ => fun _ => none

theorem Kind.nq_ok {h : HT} {k : Kind} {vs : List V} {x : Eff} (e : k.nq h vs = some x) : k.ne h.heap vs = some x := by
  cases k <;> first | exact e | exact qLd_ok e

/-- The next step of an iteration, where but one thing can come. -/
def dNx (h : HT) : List V → Option (V × Do)
  | [.ptr (some (it, 0))] => match h.blk it with
    | .iter m since seen stepped => match h.blk m with
      | .map es clock => match seen.isEmpty || (es.isEmpty || es.any fun e => Nat.blt e.2.2 stepped) with
        | true => match es.filter fun e => !seen.contains e.2.2 with
          | [] => some (.tuple [.bool false], .none)
          | e :: l => match l with
            | [] => match Nat.blt e.2.2 since with
              | true => some (.tuple [.bool true, e.1, e.2.1], .set it (.iter m since (seen ++ [e.2.2]) clock))
              | false => none
            | _ :: _ => none
        | false => none
      | _ => none
    | _ => none
  | _ => none

inductive Md where
  | mov | val | new | act | call (f : FuncId) | callv | nxt | bad

def Kind.mode : Kind → Md
  | .mov => .mov
  | .pick | .nilc | .fa _ | .iaA _ _ | .iaS _ | .ixA _ _ _ | .ixStr | .fld _ _ _ | .bin _ | .eqB _ | .eqF _ _ | .eqN _ | .un _ | .cvI _ | .lenS | .capS | .lenT | .lenK _ | .slS _ _ _ _ | .slStr _ _ | .ext _ | .bld _ _ | .mkI _ | .mkF _ | .maxI | .minI => .val
  | .ld _ | .lkp _ _ _ _ | .lenM | .b2s | .eqP _ | .ent => .val
  | .alloc _ | .box | .bsl _ _ _ _ | .mkM | .mkS _ _ _ | .s2b | .rng => .new
  | .st _ | .app _ _ | .appStr | .cpy _ | .mset _ _ | .del _ _ | .clr _ => .act
  | .call f => .call f
  | .callv => .callv
  | .nxt => .nxt
  | .bad => .bad

theorem Kind.mode_val {k : Kind} (h : k.mode = .val) : k.acts = false := by cases k <;> first | rfl | cases h
theorem Kind.mode_mov {k : Kind} (h : k.mode = .mov) : k = .mov := by cases k <;> first | rfl | cases h
theorem Kind.mode_new {k : Kind} (h : k.mode = .new) : k.acts = false := by cases k <;> first | rfl | cases h
theorem Kind.mode_act {k : Kind} (h : k.mode = .act) : k.acts = true := by cases k <;> first | rfl | cases h
theorem Kind.mode_call {k : Kind} {f : FuncId} (h : k.mode = .call f) : k = .call f := by cases k <;> first | (cases h; rfl) | cases h
theorem Kind.mode_nxt {k : Kind} (h : k.mode = .nxt) : k = .nxt := by cases k <;> first | rfl | cases h
theorem Kind.mode_callv {k : Kind} (h : k.mode = .callv) : k = .callv := by cases k <;> first | rfl | cases h

/-! ### What goes on -/

def bndV (x : Option Eff) (k : V → Option J) : Option J :=
  match x with
  | some e => match e with
    | .val v => k v
    | .new _ _ => none
  | none => none

def bndN (x : Option Eff) (h : HT) (k : V → HT → Option J) : Option J :=
  match x with
  | some e => match e with
    | .val _ => none
    | .new B mk => match h.add B with
      | some h' => k (mk h.next) h'
      | none => none
  | none => none

def bndE (x : Option (V × Do)) (h : HT) (k : V → HT → Option J) : Option J :=
  match x with
  | some (v, d) => match d.onT h with
    | some h' => k v h'
    | none => none
  | none => none

def bndC (x : Option J) (k : V → HT → Option J) : Option J :=
  match x with
  | some j => match j with
    | ⟨_, vs, h⟩ => match vs with
      | v :: _ => k v h
      | [] => none
  | none => none

def bndJ (x : Option J) (k : Nat → List V → HT → Option J) : Option J :=
  match x with
  | some j => match j with
    | ⟨n, vs, h⟩ => k n vs h
  | none => none

def tstv (v : V) (a b : Option J) : Option J :=
  match v with
  | .bool t => match t with
    | true => a
    | false => b
  | _ => none

def unc (vs : List V) (k : V → List V → Option J) : Option J :=
  match vs with
  | v :: vs => k v vs
  | [] => none

def nsw (j : Nat) (a : Option J) (b : Nat → Option J) : Option J :=
  match j with
  | 0 => a
  | n + 1 => b n

def ret1 (v : V) (h : HT) : Option J := some ⟨0, [v], h⟩

def gb (g : V) (want : Bool) : Option Bool :=
  match g with
  | .bool b => some (b == want)
  | .tuple _ => some false
  | _ => none

def gsel (g : V) (want : Bool) (f : Option J) (h : HT) : Option J :=
  match gb g want with
  | some t => match t with
    | true => f
    | false => ret1 V.undef h
  | none => none

def callvT (fns : Fns) (vs : List V) (h : HT) : Option J :=
  match vs with
  | v :: rest => match v with
    | .func f caps => fns f (rest ++ caps) h
    | _ => none
  | [] => none

def retV (x : Option Eff) (h : HT) : Option J := bndV x fun v => ret1 v h
def retN (x : Option Eff) (h : HT) : Option J := bndN x h ret1
def retE (x : Option (V × Do)) (h : HT) : Option J := bndE x h ret1

def opRes (fns : Fns) (k : Kind) (vs : List V) (h : HT) : Option J :=
  match k.mode with
  | .mov => retV (kMov vs) h
  | .val => retV (k.nq h vs) h
  | .new => retN (k.nq h vs) h
  | .act => retE (k.todo h vs) h
  | .call f => fns f vs h
  | .callv => callvT fns vs h
  | .nxt => retE (dNx h vs) h
  | .bad => none

/-! ### Reads done again -/

def sameC : V → V → Bool
  | .bool a, .bool b => a == b
  | .int k a, .int l b => k == l && a == b
  | .str a, .str b => a == b
  | .ptr a, .ptr b => a == b
  | .slice a n f e, .slice b m g d => a == b && n == m && f == g && e == d
  | .map a, .map b => a == b
  | .nilFunc, .nilFunc => true
  | .nilIface, .nilIface => true
  | _, _ => false

theorem sameC_ok {a b : V} (h : sameC a b = true) : a = b := by
  cases a <;> cases b <;> simp_all [sameC]

def sameL : List V → List V → Bool
  | [], [] => true
  | a :: l, b :: m => sameC a b && sameL l m
  | _, _ => false

theorem sameL_ok : ∀ {l m : List V}, sameL l m = true → l = m
  | [], [], _ => rfl
  | a :: l, b :: m, h => by
    simp only [sameL, Bool.and_eq_true] at h
    rw [sameC_ok h.1, sameL_ok h.2]
  | [], _ :: _, h => by cases h
  | _ :: _, [], h => by cases h

def sameV (a b : V) : Bool :=
  match a, b with
  | .agg l, .agg m => sameL l m
  | .tuple l, .tuple m => sameL l m
  | a, b => sameC a b

theorem sameV_ok {a b : V} (h : sameV a b = true) : a = b := by
  unfold sameV at h
  split at h
  · rw [sameL_ok h]
  · rw [sameL_ok h]
  · exact sameC_ok h

def sameE (x : Option Eff) (v : V) : Bool :=
  match x with
  | some e => match e with
    | .val u => sameV u v
    | .new _ _ => false
  | none => false

theorem sameE_ok {x : Option Eff} {v : V} (h : sameE x v = true) : x = some (.val v) := by
  unfold sameE at h
  split at h
  · split at h
    · rw [sameV_ok h]
    · cases h
  · cases h

def gchk (g : V) (want : Bool) (b : Bool) : Bool :=
  match gb g want with
  | some t => match t with
    | true => b
    | false => true
  | none => true

abbrev DP := List (Nat × (HT → Bool))

def chk1 (b : Bool) (x : Option J) : Option J :=
  match b with
  | true => x
  | false => none

def chks : DP → HT → Option J → Option J
  | [], _, x => x
  | p :: l, h, x => chk1 (p.2 h) (chks l h x)

def pdK (keep : List Nat) : DP → DP
  | [] => []
  | p :: l => if keep.contains p.1 then p :: pdK keep l else pdK keep l

def pdV (k : Kind) (i : Nat) (vs : List V) (v : V) (pd : DP) : DP :=
  if k.reads then (i, fun h => sameE (k.nq h vs) v) :: pd else pd

def pdG (k : Kind) (i : Nat) (g : V) (want : Bool) (vs : List V) (v : V) (pd : DP) : DP :=
  if k.reads then (i, fun h => gchk g want (sameE (k.nq h vs) v)) :: pd else pd

/-! ### Regions -/

def evR (fns : Fns) : List It → DP → (Env → HT → Option J) → Env → HT → Option J
  | [], _, K, e, h => K e h
  | it :: rest, pd, K, e, h =>
    match evsq e it.ys with
    | none => none
    | some vs =>
      match it.g with
      | none =>
        match it.k.mode with
        | .mov => match vs with
          | [v] => evR fns rest pd K (putE e it.dst v) h
          | _ => none
        | .val => bndV (it.k.nq h vs) fun v => evR fns rest (pdV it.k it.i vs v pd) K (putE e it.dst v) h
        | .new => bndN (it.k.nq h vs) h fun v h' => evR fns rest (pdV it.k it.i vs v pd) K (putE e it.dst v) h'
        | .act => bndE (it.k.todo h vs) h fun v h' => chks (pdK it.keep pd) h' (evR fns rest (pdK it.keep pd) K (putE e it.dst v) h')
        | .call f => bndC (fns f vs h) fun v h' => chks (pdK it.keep pd) h' (evR fns rest (pdK it.keep pd) K (putE e it.dst v) h')
        | .callv => bndC (callvT fns vs h) fun v h' => chks (pdK it.keep pd) h' (evR fns rest (pdK it.keep pd) K (putE e it.dst v) h')
        | .nxt => bndE (dNx h vs) h fun v h' => chks (pdK it.keep pd) h' (evR fns rest (pdK it.keep pd) K (putE e it.dst v) h')
        | .bad => none
      | some (d, want) =>
        match lq e d with
        | none => none
        | some g => bndC (gsel g want (opRes fns it.k vs h) h) fun v h' =>
          if it.k.acts then chks (pdK it.keep pd) h' (evR fns rest pd K (putE e it.dst v) h')
          else evR fns rest (pdG it.k it.i g want vs v pd) K (putE e it.dst v) h'

/-! ### Code -/

inductive DC where
  | skip
  | reg (L : List It)
  | seq (a b : DC)
  | cond (c : Opd) (a b : DC)
  | block (id : Nat) (a : DC)
  | loop (li : List Nat) (outs : List (AEx × List Nat)) (a : DC)
  | join (outs : List (AEx × List Nat)) (a : DC)
  | exit (id : Nat)
  | ret

def DC.ac : DC → AC
  | .skip => .skip
  | .reg L => .reg L
  | .seq a b => .seq a.ac b.ac
  | .cond c a b => .cond c a.ac b.ac
  | .block id a => .block id a.ac
  | .loop _ _ a => .loop a.ac
  | .join _ a => a.ac
  | .exit id => .exit id
  | .ret => .ret

def AEx.same : AEx → AEx → Bool
  | .normal, .normal => true
  | .ret, .ret => true
  | .exit i, .exit j => Nat.beq i j
  | _, _ => false

theorem AEx.same_ok {a b : AEx} (h : a.same b = true) : a = b := by
  cases a <;> cases b <;> first | rfl | (cases h; done) | skip
  simp only [AEx.same] at h
  rw [Nat.eq_of_beq_eq_true h]

def cut (e : Env) : List Nat → Option (List V)
  | [] => some []
  | t :: ts => match lq e t with
    | some v => match cut e ts with
      | some vs => some (v :: vs)
      | none => none
    | none => none

def mkE : List Nat → List V → (Env → Option J) → Option J
  | [], _, k => k []
  | t :: ts, vs, k => unc vs fun v vs => mkE ts vs fun e => k ((t, v) :: e)

/-- Where it stands among the ways out, and what goes on there. -/
def cutO : List (AEx × List Nat) → AEx → Env → HT → Nat → Option J
  | [], _, _, _, _ => none
  | o :: os, x, e, h, j => match o.1.same x with
    | true => match cut e o.2 with
      | some vs => some ⟨j, vs, h⟩
      | none => none
    | false => cutO os x e h (j + 1)

def dsp : List (AEx × List Nat) → (AEx → Env → HT → Option J) → Nat → List V → HT → Option J
  | [], _, _, _, _ => none
  | o :: os, K, j, vs, h => match os with
    | [] => mkE o.2 vs fun e => K o.1 e h
    | _ :: _ => nsw j (mkE o.2 vs fun e => K o.1 e h) fun j => dsp os K j vs h

def loopF (body : (List V → HT → Option J) → List V → HT → Option J) (n : Nat) (vs : List V) (h : HT) : Option J :=
  Nat.rec (motive := fun _ => List V → HT → Option J) (fun _ _ => none) (fun _ ih => body ih) n vs h

def evD (fns : Fns) : DC → (AEx → Env → HT → Option J) → Env → HT → Option J
  | .skip, K, e, h => K .normal e h
  | .reg L, K, e, h => evR fns L [] (K .normal) e h
  | .seq a b, K, e, h => evD fns a (fun x e h => match x with
    | .normal => evD fns b K e h
    | .exit i => K (.exit i) e h
    | .ret => K .ret e h) e h
  | .cond c a b, K, e, h => match evq e c with
    | some v => tstv v (evD fns a K e h) (evD fns b K e h)
    | none => none
  | .block id a, K, e, h => evD fns a (fun x e h => match x with
    | .exit j => match Nat.beq j id with
      | true => K .normal e h
      | false => K (.exit j) e h
    | .normal => K .normal e h
    | .ret => K .ret e h) e h
  | .exit id, K, e, h => K (.exit id) e h
  | .ret, K, e, h => K .ret e h
  | .join outs a, K, e, h => bndJ (evD fns a (fun x e h => cutO outs x e h 0) e h) fun j vs h => dsp outs K j vs h
  | .loop li outs a, K, e, h => match cut e li with
    | none => none
    | some vs => bndJ (loopF (fun rec vs h => mkE li vs fun e => evD fns a (fun x e h => match x with
        | .normal => match cut e li with
          | some vs => rec vs h
          | none => none
        | .exit i => cutO outs (.exit i) e h 0
        | .ret => cutO outs .ret e h 0) e h) 1000000 vs h) fun j vs h => dsp outs K j vs h

def resK : List Rv → (List V → Option J) → Env → HT → Option J
  | [], k, e, h => k []
  | .tmp t :: ts, k, e, h => match lq e t with
    | some v => resK ts (fun vs => k (v :: vs)) e h
    | none => none
  | .cell t n :: ts, k, e, h => match lq e t with
    | some p => bndV (qLd h n [p]) fun v => resK ts (fun vs => k (v :: vs)) e h
    | none => none

def one : List V → V
  | [v] => v
  | vs => .tuple vs

def finK (ts : List Rv) : AEx → Env → HT → Option J := fun x e h => match x with
  | .exit _ => none
  | .normal => resK ts (fun vs => ret1 (one vs) h) e h
  | .ret => resK ts (fun vs => ret1 (one vs) h) e h

inductive Ann where
  | no
  | join (outs : List (AEx × List Nat))
  | loop (li : List Nat) (outs : List (AEx × List Nat))

/-- Code with its notes, in the order in which it stands there. -/
def zipD : AC → List Ann → Option (DC × List Ann)
  | .skip, l => some (.skip, l)
  | .reg L, l => some (.reg L, l)
  | .seq a b, l => match zipD a l with
    | some (a, l) => match zipD b l with
      | some (b, l) => some (.seq a b, l)
      | none => none
    | none => none
  | .cond c a b, n :: l => match zipD a l with
    | some (a, l) => match zipD b l with
      | some (b, l) => match n with
        | .no => some (.cond c a b, l)
        | .join outs => some (.join outs (.cond c a b), l)
        | .loop _ _ => none
      | none => none
    | none => none
  | .cond _ _ _, [] => none
  | .block id a, n :: l => match zipD a l with
    | some (a, l) => match n with
      | .no => some (.block id a, l)
      | .join outs => some (.join outs (.block id a), l)
      | .loop _ _ => none
    | none => none
  | .block _ _, [] => none
  | .loop a, n :: l => match zipD a l with
    | some (a, l) => match n with
      | .loop li outs => some (.loop li outs a, l)
      | _ => none
    | none => none
  | .loop _, [] => none
  | .exit id, l => some (.exit id, l)
  | .ret, l => some (.ret, l)

theorem zipD_ac : ∀ {c : AC} {l l' : List Ann} {d : DC}, zipD c l = some (d, l') → d.ac = c
  | .skip, l, l', d, h => by cases h; rfl
  | .reg L, l, l', d, h => by cases h; rfl
  | .seq a b, l, l', d, h => by
    simp only [zipD] at h
    split at h
    case h_2 => cases h
    rename_i a' l1 h1
    split at h
    case h_2 => cases h
    rename_i b' l2 h2
    cases h
    simp only [DC.ac, zipD_ac h1, zipD_ac h2]
  | .cond c a b, [], l', d, h => by cases h
  | .cond c a b, n :: l, l', d, h => by
    simp only [zipD] at h
    split at h
    case h_2 => cases h
    rename_i a' l1 h1
    split at h
    case h_2 => cases h
    rename_i b' l2 h2
    cases n <;> cases h <;> simp only [DC.ac, zipD_ac h1, zipD_ac h2]
  | .block id a, [], l', d, h => by cases h
  | .block id a, n :: l, l', d, h => by
    simp only [zipD] at h
    split at h
    case h_2 => cases h
    rename_i a' l1 h1
    cases n <;> cases h <;> simp only [DC.ac, zipD_ac h1]
  | .loop a, [], l', d, h => by cases h
  | .loop a, n :: l, l', d, h => by
    simp only [zipD] at h
    split at h
    case h_2 => cases h
    rename_i a' l1 h1
    cases n <;> cases h
    simp only [DC.ac, zipD_ac h1]
  | .exit id, l, l', d, h => by cases h; rfl
  | .ret, l, l', d, h => by cases h; rfl

/-- The functions that are called, by number. -/
def tab : List (Nat × (List V → HT → Option J)) → Fns
  | [], _, _, _ => none
  | x :: l, f, vs, h => match Nat.beq f x.1 with
    | true => x.2 vs h
    | false => tab l f vs h

def sb (l : List Nat) : List UInt8 := l.map UInt8.ofNat

/-- A function's word. 'n': how many arguments. -/
def evFun (P : Program) (f : FuncId) (n : Nat) (ann : List Ann) (fns : Fns) (vs : List V) (h : HT) : Option J :=
  match mkFun P f with
  | some (ac, ts) => match zipD ac ann with
    | some (dc, _) => mkE (List.range n) vs fun e => evD fns dc (finK ts) e h
    | none => none
  | none => none

end Go.Cn
