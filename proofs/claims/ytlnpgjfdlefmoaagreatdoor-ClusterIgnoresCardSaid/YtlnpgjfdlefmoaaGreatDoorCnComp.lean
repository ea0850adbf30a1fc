/- From the model's operations to the abstract machine's kinds: a function over the program's own tables. -/
import Derived.Test.YtlnpgjfdlefmoaaGreatDoorCnOp
import Derived.Test.YtlnpgjfdlefmoaaGreatDoorCnBase
namespace Go.Cn
set_option linter.unusedVariables false
set_option linter.unusedSimpArgs false

def cvl (f : Value → Option V) : List Value → Option (List V)
  | [] => some []
  | v :: vs => match f v, cvl f vs with
    | some x, some xs => some (x :: xs)
    | _, _ => none

/-- A constant scalar. -/
def cv0 : Value → Option V
  | .bool b => some (.bool b)
  | .int k n => some (.int k n)
  | .string s => some (.str s.data.toList)
  | .pointer none => some (.ptr none)
  | .slice none 0 0 => some (.slice none 0 true 0)
  | .map none => some (.map none)
  | .nilFunc => some .nilFunc
  | .nilIface => some .nilIface
  | _ => none

/-- A constant. -/
def cv : Value → Option V
  | .agg cs => (cvl cv0 cs.toList).map .agg
  | v => cv0 v

def opd : Operand → Option Opd
  | .tmp t => some (.t t)
  | .const v => (cv v).map .c
  | .func f => some (.c (.func f []))
  | .global _ => none

def opds (l : List Operand) : Option (List Opd) :=
  match l with
  | [] => some []
  | x :: xs => match opd x, opds xs with
    | some y, some ys => some (y :: ys)
    | _, _ => none

section
variable (P : Program)

def szT (t : TypeId) : Option Nat := (P.info? t).map (·.size)
def byT (t : TypeId) : Option Nat := (P.info? t).map (·.bytes)
def aggT (t : TypeId) : Option Bool :=
  match P.underlying t with
  | some (.struct _) | some (.array _ _) => some true
  | some _ => some false
  | none => none
def zeroT (t : TypeId) : Option (List V) := ((P.info? t).bind (·.zero)).bind fun v => (cv v).map V.cells
def zeroV (t : TypeId) : Option V := ((P.info? t).bind (·.zero)).bind cv

/-- The type's cells are compared one by one: the leaves' kinds. -/
def flatK : Nat → TypeId → Option (List LeafK)
  | 0, _ => none
  | d + 1, t =>
    match P.underlying t with
    | some .bool => if szT P t = some 1 then some [.b] else none
    | some (.int _) => if szT P t = some 1 then some [.i] else none
    | some .string => if szT P t = some 1 then some [.s] else none
    | some (.struct fs) => if P.stoodInHeld t = false ∧ P.eqGuardType P.depth t = false then
        fs.toList.foldr (fun f acc => match acc, flatK d f.type with
          | some l, some k => if f.name ≠ "_" then some (k ++ l) else none
          | _, _ => none) (some [])
      else none
    | some (.array n e) => if P.eqGuardType P.depth t = false then (flatK d e).map fun k => (List.replicate n k).flatten else none
    | _ => none

/-- The leaves of a flat type, by offset: the fields fill the struct without gap. -/
def tight : Nat → TypeId → Bool
  | 0, _ => false
  | d + 1, t =>
    match P.underlying t with
    | some .bool | some (.int _) | some .string => true
    | some (.struct fs) =>
      (fs.toList.foldl (fun (acc : Option Nat) f => match acc, szT P f.type with
        | some o, some s => if f.offset = o ∧ tight d f.type then some (o + s) else none
        | _, _ => none) (some 0)) == szT P t
    | some (.array n e) => tight d e && (szT P e).map (n * ·) == szT P t
    | _ => false

def flatKey (t : TypeId) : Option (List LeafK) := if tight P 20 t then flatK P 20 t else none

def plF (f : Field) : Option (Nat × Nat) := (szT P f.type).map fun s => (f.offset, s)

def placesOf (t : TypeId) : Option (Nat → Option (Nat × Nat)) :=
  match P.underlying t with
  | some (.struct fs) => if fs.toList.all fun f => (szT P f.type).isSome then some fun i => (fs[i]?).bind (plF P) else none
  | some (.array _ e) => (szT P e).map fun s i => some (i * s, s)
  | _ => none

def partsOf (pl : Nat → Option (Nat × Nat)) : List (Nat × Operand) → Option (List (Nat × Nat) × List Opd)
  | [] => some ([], [])
  | (i, x) :: r => match pl i, opd x, partsOf pl r with
    | some p, some y, some (ps, ys) => some (p :: ps, y :: ys)
    | _, _, _ => none

def isNilC : Operand → Bool
  | .const (.pointer none) | .const (.slice none 0 0) | .const .nilIface => true
  | _ => false

def isNilP : Operand → Bool
  | .const (.pointer none) => true
  | _ => false
def isNilS : Operand → Bool
  | .const (.slice none 0 0) => true
  | _ => false
def isNilI : Operand → Bool
  | .const .nilIface => true
  | _ => false

def mono (k : Kind) (l : List Operand) : Option (Kind × List Opd) := (opds l).map fun ys => (k, ys)

def bytesT (t : TypeId) : Bool := match P.underlying t with
  | some (.slice e) => (match P.underlying e with | some (.int .u8) => true | _ => false)
  | _ => false

def cop (o : Oper) : Option (Kind × List Opd) :=
  match o.op with
  | .move x | .assign x => mono .mov [x]
  | .pick c a b => mono .pick [c, a, b]
  | .nilCheck x => mono .nilc [x]
  | .alloc t => (zeroT P t).map fun z => (.alloc z, [])
  | .box _ x => mono .box [x]
  | .build t parts => match placesOf P t, zeroT P t with
    | some pl, some z => (partsOf pl parts.toList).map fun (ps, ys) => (.bld z ps, ys)
    | _, _ => none
  | .buildSlice t len parts => match P.underlying t with
    | some (.slice e) => match szT P e, zeroT P e with
      | some s, some z => if 0 < s ∧ z.length = s ∧ len * s ≤ 2 ^ 24 then
          (partsOf (fun i => some (i * s, s)) parts.toList).map fun (ps, ys) => (.bsl s len (List.replicate len z).flatten ps, ys) else none
      | _, _ => none
    | _ => none
  | .load t a => match aggT P t, szT P t with
    | some true, some n => mono (.ld (some n)) [a]
    | some false, some _ => mono (.ld none) [a]
    | _, _ => none
  | .store t a x => match szT P t with
    | some n => mono (.st n) [a, x]
    | none => none
  | .binOp op t x y _ =>
    match P.underlying t, op with
    | some (.int _), _ | some .string, _ => mono (.bin op) [x, y]
    | some .bool, .eql => mono (.eqB false) [x, y]
    | some .bool, .neq => mono (.eqB true) [x, y]
    | some (.pointer e), .eql => if isNilP y then mono (.eqN false) [x, y] else match szT P e with
      | some s => if s ≠ 0 then mono (.eqP false) [x, y] else none
      | none => none
    | some (.pointer e), .neq => if isNilP y then mono (.eqN true) [x, y] else match szT P e with
      | some s => if s ≠ 0 then mono (.eqP true) [x, y] else none
      | none => none
    | some (.slice _), .eql => if isNilS y then mono (.eqN false) [x, y] else none
    | some (.slice _), .neq => if isNilS y then mono (.eqN true) [x, y] else none
    | some (.interface _), .eql => if isNilI y then mono (.eqN false) [x, y] else none
    | some (.interface _), .neq => if isNilI y then mono (.eqN true) [x, y] else none
    | some (.struct _), .eql | some (.array _ _), .eql => (flatKey P t).bind fun ks => mono (.eqF false ks) [x, y]
    | some (.struct _), .neq | some (.array _ _), .neq => (flatKey P t).bind fun ks => mono (.eqF true ks) [x, y]
    | _, _ => none
  | .unOp op _ x => mono (.un op) [x]
  | .convert src dst x =>
    match P.underlying src, P.underlying dst with
    | some (.int _), some (.int k) => mono (.cvI k) [x]
    | some (.slice _), some .string => if bytesT P src then mono .b2s [x] else none
    | some .string, some (.slice _) => if bytesT P dst then mono .s2b [x] else none
    | _, _ => none
  | .makeInterface t x => match P.underlying t with
    | some (.interface _) | none => none
    | some _ => mono (.mkI t) [x]
  | .makeFunc (.func f) first captured => if first.isEmpty then mono (.mkF f) captured.toList else none
  | .makeMap _ none => some (.mkM, [])
  | .makeSlice t l c => match P.underlying t with
    | some (.slice e) => match szT P e, byT P e, zeroT P e with
      | some s, some b, some z => if 0 < s ∧ z.length = s then mono (.mkS s b z) [l, c] else none
      | _, _, _ => none
    | _ => none
  | .slice t x lo hi mx =>
    match P.underlying t with
    | some .string => if mx.isSome then none else mono (.slStr lo.isSome hi.isSome) (x :: (lo.toList ++ hi.toList))
    | some (.slice e) => match szT P e with
      | some s => if mx.isSome then (if lo.isSome && hi.isSome then mono (.slS s true true true) (x :: (lo.toList ++ hi.toList ++ mx.toList)) else none)
        else mono (.slS s lo.isSome hi.isSome false) (x :: (lo.toList ++ hi.toList))
      | none => none
    | _ => none
  | .fieldAddr s x f => match P.underlying s with
    | some (.struct fs) => match fs[f]? with
      | some fd => match szT P fd.type with
        | some n => if n = 0 then none else mono (.fa fd.offset) [x]
        | none => none
      | none => none
    | _ => none
  | .field t x f => match P.underlying t with
    | some (.struct fs) => match fs[f]? with
      | some fd => match aggT P fd.type, szT P fd.type with
        | some g, some n => mono (.fld fd.offset n g) [x]
        | _, _ => none
      | none => none
    | _ => none
  | .indexAddr t x i => match P.underlying t with
    | some (.array n e) => match szT P e with
      | some s => mono (.iaA n s) [x, i]
      | none => none
    | some (.slice e) => match szT P e with
      | some s => mono (.iaS s) [x, i]
      | none => none
    | _ => none
  | .index t x i => match P.underlying t with
    | some (.array n e) => match szT P e, aggT P e with
      | some s, some g => mono (.ixA n s g) [x, i]
      | _, _ => none
    | some .string => mono .ixStr [x, i]
    | _ => none
  | .lookup t x i ok => match P.underlying t with
    | some (.map k e) => match flatKey P k, zeroV P e, aggT P k with
      | some ks, some z, some g => mono (.lkp g ks z ok) [x, i]
      | _, _, _ => none
    | _ => none
  | .mapUpdate t m k x | .insert t m k x => match P.underlying t with
    | some (.map kt _) => (flatKey P kt).bind fun ks => (aggT P kt).bind fun g => mono (.mset g ks) [m, k, x]
    | _ => none
  | .range t x => match P.underlying t with
    | some (.map _ _) => mono .rng [x]
    | _ => none
  | .next x s => if s then none else mono .nxt [x]
  | .entry x => mono .ent [x]
  | .extract x i => mono (.ext i) [x]
  | .call c =>
    match c.callee with
    | .builtin .len => match c.argTypes.toList, c.args.toList with
      | [t], [x] => match P.underlying t with
        | some (.slice _) => mono .lenS [x]
        | some .string => mono .lenT [x]
        | some (.array n _) => mono (.lenK n) [x]
        | some (.map _ _) => mono .lenM [x]
        | _ => none
      | _, _ => none
    | .builtin .cap => match c.argTypes.toList, c.args.toList with
      | [t], [x] => match P.underlying t with
        | some (.slice _) => mono .capS [x]
        | _ => none
      | _, _ => none
    | .builtin .append => match c.argTypes.toList, c.args.toList with
      | [t, u], [x, y] => match P.underlying t, P.underlying u with
        | some (.slice e), some (.slice _) => match szT P e, byT P e, zeroT P e with
          | some s, some b, some z => if z.length = s then mono (.app s b) [x, y] else none
          | _, _, _ => none
        | some (.slice e), some .string => match zeroT P e with
          | some z => if szT P e = some 1 ∧ byT P e = some 1 ∧ z.length = 1 then mono .appStr [x, y] else none
          | none => none
        | _, _ => none
      | _, _ => none
    | .builtin .copy => match c.argTypes.toList, c.args.toList with
      | [t, u], [x, y] => match P.underlying t, P.underlying u with
        | some (.slice e), some (.slice _) => match szT P e with
          | some s => mono (.cpy s) [x, y]
          | none => none
        | _, _ => none
      | _, _ => none
    | .builtin .delete => match c.argTypes.toList, c.args.toList with
      | t :: _, [m, k] => match P.underlying t with
        | some (.map kt _) => (flatKey P kt).bind fun ks => (aggT P kt).bind fun g => mono (.del g ks) [m, k]
        | _ => none
      | _, _ => none
    | .builtin .clear => match c.argTypes.toList, c.args.toList with
      | [t], [x] => match P.underlying t with
        | some (.slice e) => match zeroT P e, szT P e with
          | some z, some s => if z.length = s ∧ 0 < s ∧ z.all V.isCell then mono (.clr z) [x] else none
          | _, _ => none
        | _ => none
      | _, _ => none
    | .builtin .max => match c.args.toList with
      | [x, y] => mono .maxI [x, y]
      | _ => none
    | .builtin .min => match c.args.toList with
      | [x, y] => mono .minI [x, y]
      | _ => none
    | .value (.func f) => match P.funcs[f]? with
      | some fn => if fn.name == "runtime.NumGoroutine" || fn.body.isNone then none else mono (.call f) c.args.toList
      | none => none
    | .value (.tmp t) => mono .callv (.tmp t :: c.args.toList)
    | _ => none
  | _ => none
end
end Go.Cn
