/- A region walked once, in one order of our own choice, with the abstract machine; and why that stands for every order the run may draw. -/
import Derived.Test.YtlnpgjfdlefmoaaGreatDoorCnNe
namespace Go.Cn
set_option linter.unusedVariables false
set_option linter.unusedSimpArgs false
set_option maxHeartbeats 200000

/-- One operation, made ready: its number in the region; where its word goes; its guard's slot; what it does to which operands; 'keep': the reads that stand ahead of it in our order and might come behind it in the run. -/
structure It where
  i : Nat
  dst : Option Nat
  g : Option (Nat × Bool)
  k : Kind
  ys : List Opd
  keep : List Nat

/-- A read that was done in our order, and may be done later in the run. -/
structure Pnd where
  i : Nat
  k : Kind
  vs : List V
  eff : Eff

def wantE (e : Env) : Option (Nat × Bool) → Option Bool
  | none => some true
  | some (d, want) => match lk e d with
    | some (.bool b) => some (b == want)
    | some (.tuple _) => some false
    | _ => none

def putE (e : Env) (dst : Option Nat) (v : V) : Env :=
  match dst with
  | some d => (d, v) :: e
  | none => e

/-- A call, in the abstract machine's words: what is handed back stands for a value and a heap of which 'K' holds. -/
def CallT (P : Program) (f : FuncId) (vs : List V) (H : Heap) (K : V → Heap → Prop) : Prop :=
  ∀ ρ w args, Rel ρ H w → VRels ρ vs args → Calls P f args w fun e w' =>
    ∃ ρ' v v' H', e = .returned v' ∧ VRel ρ' v v' ∧ Rel ρ' H' w' ∧ Ext ρ H w ρ' H' w' ∧ K v H'

/-- Is it a function of the program's with a body? -/
def enters (P : Program) (f : FuncId) : Bool :=
  match P.funcs[f]? with
  | some fn => !(fn.name == "runtime.NumGoroutine" || fn.body.isNone)
  | none => false

def ActT (P : Program) (k : Kind) (vs : List V) (H : Heap) (K : V → Heap → Prop) : Prop :=
  match k with
  | .call f => CallT P f vs H K
  | .callv => match vs with
    | .func f caps :: rest => enters P f = true ∧ CallT P f (rest ++ caps) H K
    | _ => False
  | .nxt => match vs with
    | [.ptr (some (it, 0))] => nextV H it K
    | _ => False
  | .bad => False
  | k => match k.ef H vs with
    | some (v, H') => K v H'
    | none => False

def cwp (P : Program) : List It → Env → Heap → List Pnd → (Env → Heap → Prop) → Prop
  | [], e, H, _, Q => Q e H
  | it :: rest, e, H, pd, Q =>
    match wantE e it.g with
    | none => False
    | some false => cwp P rest (putE e it.dst V.undef) H pd Q
    | some true =>
      match evs e it.ys with
      | none => False
      | some vs =>
        if it.k.acts then
          ActT P it.k vs H fun v H' => (∀ p ∈ pd.filter (fun p => it.keep.contains p.i), p.k.ne H' p.vs = some p.eff) ∧ cwp P rest (putE e it.dst v) H' (pd.filter (fun p => it.keep.contains p.i)) Q
        else match it.k.ne H vs with
          | none => False
          | some (.val v) => cwp P rest (putE e it.dst v) H (if it.k.reads then ⟨it.i, it.k, vs, .val v⟩ :: pd else pd) Q
          | some (.new B mk) => cwp P rest (putE e it.dst (mk H.next)) (H.push B) (if it.k.reads then ⟨it.i, it.k, vs, .new B mk⟩ :: pd else pd) Q

end Go.Cn
