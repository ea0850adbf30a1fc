/- What a printed function is made of: plain functions over words and heaps as trees. -/
import Derived.Test.YtlnpgjfdlefmoaaGreatDoorCnR
namespace Go.Cn
set_option linter.unusedVariables false
set_option linter.unusedSimpArgs false

/-- What comes of a piece: which way it went on, the words that go on, the heap. -/
structure J where
  j : Nat
  vs : List V
  h : HT

abbrev Fns := Nat → List V → HT → Option J

/-! ### Words told twice -/

def nth : List V → Nat → Option V
  | [], _ => none
  | v :: vs, n => match n with
    | 0 => some v
    | n + 1 => nth vs n

theorem nth_get : ∀ (l : List V) (n : Nat), nth l n = l[n]?
  | [], n => by simp [nth]
  | v :: vs, 0 => rfl
  | v :: vs, n + 1 => by simp [nth, nth_get vs n]

noncomputable def qLd (h : HT) (n : Option Nat) : List V → Option Eff
  | [.ptr (some (id, o))] => match n with
    | none => match h.blk id with
      | .cells _ _ cs => match nthR cs o with
        | some v => some (.val v)
        | none => none
      | _ => none
    | some n => match h.row id o n with
      | some cs => some (.val (.agg cs))
      | none => none
  | _ => none

theorem qLd_ok {h : HT} {n : Option Nat} {vs : List V} {x : Eff} (e : qLd h n vs = some x) : kLd h.heap n vs = some x := by
  unfold qLd at e
  split at e
  case h_2 => cases e
  simp only [kLd]
  split at e
  · rw [HT.heap_blk]
    split at e
    · rename_i hb
      rw [hb]
      split at e
      · rename_i v hv
        cases e
        rw [nthR_eq] at hv
        simp [hv]
      · cases e
    · cases e
  · split at e
    · rename_i hr
      cases e
      simp [HT.row_ok hr]
    · cases e

/-- Two operands, the short way where there is one. -/
noncomputable def qBinS (op : BinOp) : List V → Option Eff :=
  match op with
  | .add => l2 rAdd
  | .sub => l2 rSub
  | .eql => l2 rEql
  | .neq => l2 rNeq
  | .lss => l2 rLss
  | .leq => l2 rLeq
  | .gtr => l2 rGtr
  | .geq => l2 rGeq
  | .shr => l2 rShr
  | .and => l2 rAnd
  | .or => l2 rOr
  | .xor => l2 rXor
  | op => qBin op

theorem qBinS_ok {op : BinOp} {vs : List V} {x : Eff} (h : qBinS op vs = some x) : kBin op vs = some x := by
  cases op
  case shr => obtain ⟨a, b, rfl, h⟩ := l2_some h; exact rShr_ok h
  case and => obtain ⟨a, b, rfl, h⟩ := l2_some h; exact rAnd_ok h
  case or => obtain ⟨a, b, rfl, h⟩ := l2_some h; exact rOr_ok h
  case xor => obtain ⟨a, b, rfl, h⟩ := l2_some h; exact rXor_ok h
  case add => obtain ⟨a, b, rfl, h⟩ := l2_some h; exact rAdd_ok h
  case sub => obtain ⟨a, b, rfl, h⟩ := l2_some h; exact rSub_ok h
  case eql => obtain ⟨a, b, rfl, h⟩ := l2_some h; exact rEql_ok h
  case neq => obtain ⟨a, b, rfl, h⟩ := l2_some h; exact rNeq_ok h
  case lss => obtain ⟨a, b, rfl, h⟩ := l2_some h; exact rLss_ok h
  case leq => obtain ⟨a, b, rfl, h⟩ := l2_some h; exact rLeq_ok h
  case gtr => obtain ⟨a, b, rfl, h⟩ := l2_some h; exact rGtr_ok h
  case geq => obtain ⟨a, b, rfl, h⟩ := l2_some h; exact rGeq_ok h
  all_goals exact qBin_ok h

noncomputable def qIxS (len esz : Nat) (agg : Bool) : List V → Option Eff :=
  match agg with
  | true => qIxA len esz true
  | false => l2 (rIxA len esz)

theorem qIxS_ok {len esz : Nat} {agg : Bool} {vs : List V} {x : Eff} (h : qIxS len esz agg vs = some x) : kIxA len esz agg vs = some x := by
  cases agg with
  | true => exact qIxA_ok h
  | false => obtain ⟨a, b, rfl, h⟩ := l2_some h; exact rIxA_ok h

noncomputable def qUnS (op : UnOp) : List V → Option Eff :=
  match op with
  | .not => l1 rNot
  | op => kUn op

theorem qUnS_ok {op : UnOp} {vs : List V} {x : Eff} (h : qUnS op vs = some x) : kUn op vs = some x := by
  cases op
  case not => obtain ⟨a, rfl, h⟩ := l1_some h; exact rNot_ok h
  all_goals exact h

noncomputable def qLdS (h : HT) (n : Option Nat) : List V → Option Eff :=
  match n with
  | none => l1 (rLd h)
  | some n => l1 (rLdN h n)

theorem qLdS_ok {h : HT} {n : Option Nat} {vs : List V} {x : Eff} (e : qLdS h n vs = some x) : kLd h.heap n vs = some x := by
  cases n with
  | none => obtain ⟨a, rfl, e⟩ := l1_some e; exact rLd_ok e
  | some n => obtain ⟨a, rfl, e⟩ := l1_some e; exact rLdN_ok e

/-- A kind that does not act, over a heap as a tree. -/
noncomputable def Kind.nq (h : HT) (k : Kind) : List V → Option Eff :=
  match k with
  | .mov => kMov
  | .pick => l3 rPick
  | .nilc => l1 rNilc
  | .fa off => l1 (rFa off)
  | .iaA len esz => l2 (rIaA len esz)
  | .iaS esz => l2 (rIaS esz)
  | .ixA len esz agg => qIxS len esz agg
  | .ixStr => kIxStr
  | .fld off sz agg => kFld off sz agg
  | .bin op => qBinS op
  | .eqB neg => kEqB neg
  | .eqF neg ks => kEqF neg ks
  | .eqN neg => kEqN neg
  | .un op => qUnS op
  | .cvI k => l1 (rCvI k)
  | .lenS => l1 rLenS
  | .capS => kCapS
  | .lenT => kLenT
  | .lenK n => kLenK n
  | .slS esz lo hi mx => if mx then kSl3 esz else kSlS esz lo hi
  | .slStr lo hi => kSlStr lo hi
  | .ext i => l1 (rExt i)
  | .bld zero parts => rBld zero parts
  | .mkI t => kMkI t
  | .mkF f => kMkF f
  | .maxI => l2 rMax
  | .minI => l2 rMin
  | .ld n => qLdS h n
  | .lkp g ks zero ok => kLkp h.heap g ks zero ok
  | .lenM => kLenM h.heap
  | .b2s => kB2s h.heap
  | .eqP neg => kEqP h.heap neg
  | .ent => kEnt h.heap
  | .rng => kRng h.heap
  | .alloc zero => rAlloc zero
  | .box => l1 rBox
  | .bsl esz len zero parts => rBsl esz len zero parts
  | .mkM => kMkM
  | .mkS esz bytes zero => kMkS esz bytes zero
  | .s2b => kS2b
  | _ => fun _ => none

theorem Kind.nq_ok {h : HT} {k : Kind} {vs : List V} {x : Eff} (e : k.nq h vs = some x) : k.ne h.heap vs = some x := by
  cases k
  case pick => obtain ⟨a, b, c, rfl, e⟩ := l3_some e; exact rPick_ok e
  case nilc => obtain ⟨a, rfl, e⟩ := l1_some e; exact rNilc_ok e
  case fa => obtain ⟨a, rfl, e⟩ := l1_some e; exact rFa_ok e
  case iaA => obtain ⟨a, b, rfl, e⟩ := l2_some e; exact rIaA_ok e
  case iaS => obtain ⟨a, b, rfl, e⟩ := l2_some e; exact rIaS_ok e
  case lenS => obtain ⟨a, rfl, e⟩ := l1_some e; exact rLenS_ok e
  case box => obtain ⟨a, rfl, e⟩ := l1_some e; exact rBox_ok e
  case ixA => exact qIxS_ok e
  case bin => exact qBinS_ok e
  case un => exact qUnS_ok e
  case cvI => obtain ⟨a, rfl, e⟩ := l1_some e; exact rCvI_ok e
  case ext => obtain ⟨a, rfl, e⟩ := l1_some e; exact rExt_ok e
  case maxI => obtain ⟨a, b, rfl, e⟩ := l2_some e; exact rMax_ok e
  case minI => obtain ⟨a, b, rfl, e⟩ := l2_some e; exact rMin_ok e
  case ld => exact qLdS_ok e
  case bld => exact rBld_ok e
  case bsl => exact rBsl_ok e
  case alloc => exact rAlloc_ok e
  all_goals exact e

noncomputable def l2E (f : V → V → Option (V × Do)) (l : List V) : Option (V × Do) :=
  List.rec (motive := fun _ => Option (V × Do)) none (fun x t _ => List.rec (motive := fun _ => Option (V × Do)) none (fun y u _ => List.rec (motive := fun _ => Option (V × Do)) (f x y) (fun _ _ _ => none) u) t) l
theorem l2E_some {f : V → V → Option (V × Do)} {l : List V} {r : V × Do} (h : l2E f l = some r) : ∃ x y, l = [x, y] ∧ f x y = some r := by
  match l, h with
  | [x, y], h => exact ⟨x, y, rfl, h⟩
  | [], h => cases h
  | [_], h => cases h
  | _ :: _ :: _ :: _, h => cases h

/-- What is to be done, the short way where there is one. -/
noncomputable def Kind.td (h : HT) (k : Kind) : List V → Option (V × Do) :=
  match k with
  | .st n => l2E (rSt h n)
  | k => k.todo h

theorem Kind.td_ok {h : HT} {k : Kind} {vs : List V} {r : V × Do} (e : k.td h vs = some r) : k.todo h vs = some r := by
  cases k
  case st => obtain ⟨a, b, rfl, e⟩ := l2E_some e; exact rSt_ok e
  all_goals exact e

/-- The next step of an iteration, where but one thing can come. -/
noncomputable def dNx (h : HT) : List V → Option (V × Do)
  | [.ptr (some (it, 0))] => match h.blk it with
    | .iter m since seen stepped => match h.blk m with
      | .map es clock => match seen.isEmpty || (es.isEmpty || es.any fun e => Nat.blt e.2.2 stepped) with
        | true => match es.filter fun e => !seen.contains e.2.2 with
          | [] => some (.tuple [.bool false], .none)
          | e :: l => match l with
            | [] => match Nat.blt e.2.2 since with
              | true => some (.tuple [.bool true, e.1, e.2.1], .set it (.iter m since (seen ++ [e.2.2]) clock))
              | false => none
            | _ :: _ => none
        | false => none
      | _ => none
    | _ => none
  | _ => none

inductive Md where
  | mov | val | new | act | call (f : FuncId) | callv | nxt | bad

def Kind.mode : Kind → Md
  | .mov => .mov
  | .pick | .nilc | .fa _ | .iaA _ _ | .iaS _ | .ixA _ _ _ | .ixStr | .fld _ _ _ | .bin _ | .eqB _ | .eqF _ _ | .eqN _ | .un _ | .cvI _ | .lenS | .capS | .lenT | .lenK _ | .slS _ _ _ _ | .slStr _ _ | .ext _ | .bld _ _ | .mkI _ | .mkF _ | .maxI | .minI => .val
  | .ld _ | .lkp _ _ _ _ | .lenM | .b2s | .eqP _ | .ent => .val
  | .alloc _ | .box | .bsl _ _ _ _ | .mkM | .mkS _ _ _ | .s2b | .rng => .new
  | .st _ | .app _ _ | .appStr | .cpy _ | .mset _ _ | .del _ _ | .clr _ => .act
  | .call f => .call f
  | .callv => .callv
  | .nxt => .nxt
  | .bad => .bad

theorem Kind.mode_val {k : Kind} (h : k.mode = .val) : k.acts = false := by cases k <;> first | rfl | cases h
theorem Kind.mode_mov {k : Kind} (h : k.mode = .mov) : k = .mov := by cases k <;> first | rfl | cases h
theorem Kind.mode_new {k : Kind} (h : k.mode = .new) : k.acts = false := by cases k <;> first | rfl | cases h
theorem Kind.mode_act {k : Kind} (h : k.mode = .act) : k.acts = true := by cases k <;> first | rfl | cases h
theorem Kind.mode_call {k : Kind} {f : FuncId} (h : k.mode = .call f) : k = .call f := by cases k <;> first | (cases h; rfl) | cases h
theorem Kind.mode_nxt {k : Kind} (h : k.mode = .nxt) : k = .nxt := by cases k <;> first | rfl | cases h
theorem Kind.mode_callv {k : Kind} (h : k.mode = .callv) : k = .callv := by cases k <;> first | rfl | cases h

/-! ### What goes on -/

noncomputable def bndV (x : Option Eff) (k : V → Option J) : Option J :=
  Option.rec (motive := fun _ => Option J) none (fun e => Eff.rec (motive := fun _ => Option J) (fun v => k v) (fun _ _ => none) e) x

noncomputable def bndN (x : Option Eff) (h : HT) (k : V → HT → Option J) : Option J :=
  Option.rec (motive := fun _ => Option J) none (fun e => Eff.rec (motive := fun _ => Option J) (fun _ => none) (fun B mk => Option.rec (motive := fun _ => Option J) none (fun h' => k (mk h.next) h') (h.add B)) e) x

noncomputable def bndE (x : Option (V × Do)) (h : HT) (k : V → HT → Option J) : Option J :=
  Option.rec (motive := fun _ => Option J) none (fun p => Prod.rec (motive := fun _ => Option J) (fun v d => Option.rec (motive := fun _ => Option J) none (fun h' => k v h') (d.onT h)) p) x

noncomputable def bndC (x : Option J) (k : V → HT → Option J) : Option J :=
  Option.rec (motive := fun _ => Option J) none (fun j => J.rec (motive := fun _ => Option J) (fun _ vs h => List.rec (motive := fun _ => Option J) none (fun v _ _ => k v h) vs) j) x

noncomputable def bndJ (x : Option J) (k : Nat → List V → HT → Option J) : Option J :=
  Option.rec (motive := fun _ => Option J) none (fun j => J.rec (motive := fun _ => Option J) (fun n vs h => k n vs h) j) x

noncomputable def tstv (v : V) (a b : Option J) : Option J := v.onBool (fun t => onB t a b) none

noncomputable def unc (vs : List V) (k : V → List V → Option J) : Option J :=
  List.rec (motive := fun _ => Option J) none (fun v t _ => k v t) vs

noncomputable def nsw (j : Nat) (a : Option J) (b : Nat → Option J) : Option J := Nat.rec (motive := fun _ => Option J) a (fun n _ => b n) j

def ret1 (v : V) (h : HT) : Option J := some ⟨0, [v], h⟩

noncomputable def gb (g : V) (want : Bool) : Option Bool :=
  g.onBool (fun b => some (onB want b (onB b false true))) (g.onTuple (fun _ => some false) none)

noncomputable def gsel (g : V) (want : Bool) (f : Option J) (h : HT) : Option J :=
  onO (gb g want) (fun t => onB t f (ret1 V.undef h)) none

noncomputable def callvT (fns : Fns) (vs : List V) (h : HT) : Option J :=
  match vs with
  | v :: rest => match v with
    | .func f caps => fns f (rest ++ caps) h
    | _ => none
  | [] => none

noncomputable def retV (x : Option Eff) (h : HT) : Option J := bndV x fun v => ret1 v h
noncomputable def retN (x : Option Eff) (h : HT) : Option J := bndN x h ret1
noncomputable def retE (x : Option (V × Do)) (h : HT) : Option J := bndE x h ret1

noncomputable def opRes (fns : Fns) (k : Kind) (vs : List V) (h : HT) : Option J :=
  match k.mode with
  | .mov => retV (kMov vs) h
  | .val => retV (k.nq h vs) h
  | .new => retN (k.nq h vs) h
  | .act => retE (k.td h vs) h
  | .call f => fns f vs h
  | .callv => callvT fns vs h
  | .nxt => retE (dNx h vs) h
  | .bad => none

/-! ### Reads done again -/

def sameC : V → V → Bool
  | .bool a, .bool b => a == b
  | .int k a, .int l b => k == l && a == b
  | .str a, .str b => a == b
  | .ptr a, .ptr b => a == b
  | .slice a n f e, .slice b m g d => a == b && n == m && f == g && e == d
  | .map a, .map b => a == b
  | .nilFunc, .nilFunc => true
  | .nilIface, .nilIface => true
  | _, _ => false

theorem sameC_ok {a b : V} (h : sameC a b = true) : a = b := by
  cases a <;> cases b <;> simp_all [sameC]

def sameL : List V → List V → Bool
  | [], [] => true
  | a :: l, b :: m => sameC a b && sameL l m
  | _, _ => false

theorem sameL_ok : ∀ {l m : List V}, sameL l m = true → l = m
  | [], [], _ => rfl
  | a :: l, b :: m, h => by
    simp only [sameL, Bool.and_eq_true] at h
    rw [sameC_ok h.1, sameL_ok h.2]
  | [], _ :: _, h => by cases h
  | _ :: _, [], h => by cases h

def sameV (a b : V) : Bool :=
  match a, b with
  | .agg l, .agg m => sameL l m
  | .tuple l, .tuple m => sameL l m
  | a, b => sameC a b

theorem sameV_ok {a b : V} (h : sameV a b = true) : a = b := by
  unfold sameV at h
  split at h
  · rw [sameL_ok h]
  · rw [sameL_ok h]
  · exact sameC_ok h

def sameE (x : Option Eff) (v : V) : Bool :=
  match x with
  | some e => match e with
    | .val u => sameV u v
    | .new _ _ => false
  | none => false

theorem sameE_ok {x : Option Eff} {v : V} (h : sameE x v = true) : x = some (.val v) := by
  unfold sameE at h
  split at h
  · split at h
    · rw [sameV_ok h]
    · cases h
  · cases h

noncomputable def gchk (g : V) (want : Bool) (b : Bool) : Bool :=
  match gb g want with
  | some t => match t with
    | true => b
    | false => true
  | none => true

abbrev DP := List (Nat × (HT → Bool))

noncomputable def chk1 (b : Bool) (x : Option J) : Option J := onB b x none

noncomputable def chks : DP → HT → Option J → Option J
  | [], _, x => x
  | p :: l, h, x => chk1 (p.2 h) (chks l h x)

def pdK (keep : List Nat) : DP → DP
  | [] => []
  | p :: l => if keep.contains p.1 then p :: pdK keep l else pdK keep l

noncomputable def pdV (k : Kind) (i : Nat) (vs : List V) (v : V) (pd : DP) : DP :=
  if k.reads then (i, fun h => sameE (k.nq h vs) v) :: pd else pd

noncomputable def pdG (k : Kind) (i : Nat) (g : V) (want : Bool) (vs : List V) (v : V) (pd : DP) : DP :=
  if k.reads then (i, fun h => gchk g want (sameE (k.nq h vs) v)) :: pd else pd

noncomputable def unc1 (vs : List V) (k : V → Option J) : Option J := List.rec (motive := fun _ => Option J) none (fun a _ _ => k a) vs
noncomputable def unc2 (vs : List V) (k : V → V → Option J) : Option J := List.rec (motive := fun _ => Option J) none (fun a t _ => List.rec (motive := fun _ => Option J) none (fun b _ _ => k a b) t) vs
noncomputable def unc3 (vs : List V) (k : V → V → V → Option J) : Option J := List.rec (motive := fun _ => Option J) none (fun a t _ => List.rec (motive := fun _ => Option J) none (fun b u _ => List.rec (motive := fun _ => Option J) none (fun c _ _ => k a b c) u) t) vs
noncomputable def unc4 (vs : List V) (k : V → V → V → V → List V → Option J) : Option J := List.rec (motive := fun _ => Option J) none (fun a t _ => List.rec (motive := fun _ => Option J) none (fun b u _ => List.rec (motive := fun _ => Option J) none (fun c w _ => List.rec (motive := fun _ => Option J) none (fun d x _ => k a b c d x) w) u) t) vs

def loopF (body : (List V → HT → Option J) → List V → HT → Option J) (n : Nat) (vs : List V) (h : HT) : Option J :=
  Nat.rec (motive := fun _ => List V → HT → Option J) (fun _ _ => none) (fun _ ih => body ih) n vs h

/-- The functions that are called, by number. -/
noncomputable def tab : List (Nat × (List V → HT → Option J)) → Fns
  | [], _, _, _ => none
  | x :: l, f, vs, h => match Nat.beq f x.1 with
    | true => x.2 vs h
    | false => tab l f vs h

def sb (l : List Nat) : List UInt8 := l.map UInt8.ofNat

end Go.Cn
