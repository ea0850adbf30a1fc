/- The abstract machine's values and heap. Nothing of any program stands here. -/
import GoSem.Core.Value
import GoSem.Core.Ast
import GoSem.Core.Code
import GoSem.Core.View
namespace Go.Cn
set_option linter.unusedVariables false
set_option linter.unusedSimpArgs false

/-- An abstract value. A pointer: an abstract block's number and an offset in cells. A slice: such a place, how many elements, and whether it is known to have no spare room. -/
inductive V where
  | bool (b : Bool)
  | int (k : IntKind) (n : Int)
  | str (s : List UInt8)
  | ptr (p : Option (Nat × Nat))
  | slice (p : Option (Nat × Nat)) (len : Nat) (full : Bool) (es : Nat)
  | map (r : Option Nat)
  | func (f : FuncId) (caps : List V)
  | nilFunc
  | iface (t : TypeId) (v : V)
  | nilIface
  | agg (cs : List V)
  | tuple (vs : List V)
  deriving Inhabited

def V.undef : V := .tuple []

/-- May a value stand in one cell? -/
def V.isCell : V → Bool
  | .agg _ | .tuple _ => false
  | _ => true

/-- An abstract block. 'es': cells of an element (0: it is no slice's row). 'ro': it may not be written. -/
inductive Blk where
  | cells (es : Nat) (ro : Bool) (cs : List V)
  | map (es : List (V × V × Nat)) (clock : Nat)
  | iter (m since : Nat) (seen : List Nat) (stepped : Nat)
  | dead
  deriving Inhabited

structure Heap where
  next : Nat
  blk : Nat → Blk

end Go.Cn

/- The abstract machine's operations: what each makes of values and heap. Plain functions; nothing of any program stands here. -/
namespace Go.Cn
set_option linter.unusedVariables false
set_option linter.unusedSimpArgs false

def Heap.set (H : Heap) (id : Nat) (B : Blk) : Heap := { H with blk := fun j => if j = id then B else H.blk j }
def Heap.push (H : Heap) (B : Blk) : Heap := { next := H.next + 1, blk := fun j => if j = H.next then B else H.blk j }

/-- Cells written one behind the other from a place on. -/
def wr : List V → Nat → List V → List V
  | cs, 0, [] => cs
  | [], _, _ => []
  | _ :: cs, 0, v :: vs => v :: wr cs 0 vs
  | c :: cs, n + 1, vs => c :: wr cs n vs

inductive Opd where
  | t (n : Nat)
  | c (v : V)
  deriving Inhabited

abbrev Env := List (Nat × V)

def lk : Env → Nat → Option V
  | [], _ => none
  | (m, v) :: e, n => if n = m then some v else lk e n

def ev (e : Env) : Opd → Option V
  | .t n => lk e n
  | .c v => some v

def evs (e : Env) : List Opd → Option (List V)
  | [] => some []
  | x :: xs => match ev e x, evs e xs with
    | some v, some vs => some (v :: vs)
    | _, _ => none

/-- The kinds of a comparable leaf: a whole number, a string, a bool. -/
inductive LeafK where | i | s | b
  deriving DecidableEq, Inhabited

inductive Kind where
  | mov | pick | nilc
  | fa (off : Nat)
  | iaA (len esz : Nat)
  | iaS (esz : Nat)
  | ixA (len esz : Nat) (agg : Bool)
  | ixStr
  | fld (off sz : Nat) (agg : Bool)
  | bin (op : BinOp)
  | eqB (neg : Bool)
  | eqF (neg : Bool) (ks : List LeafK)
  | eqN (neg : Bool)
  | un (op : UnOp)
  | cvI (k : IntKind)
  | lenS
  | capS
  | lenT
  | lenK (n : Nat)
  | slS (esz : Nat) (lo hi mx : Bool)
  | slStr (lo hi : Bool)
  | ext (i : Nat)
  | bld (zero : List V) (parts : List (Nat × Nat))
  | mkI (t : TypeId)
  | mkF (f : FuncId)
  | maxI | minI
  -- reads
  | ld (n : Option Nat)
  | lkp (g : Bool) (ks : List LeafK) (zero : V) (ok : Bool)
  | lenM
  | b2s
  | eqP (neg : Bool)
  | ent
  -- new blocks
  | alloc (zero : List V)
  | box
  | bsl (esz len : Nat) (zero : List V) (parts : List (Nat × Nat))
  | mkM
  | mkS (esz bytes : Nat) (zero : List V)
  | s2b
  | rng
  -- effects
  | st (n : Nat)
  | app (esz bytes : Nat)
  | appStr
  | cpy (esz : Nat)
  | mset (g : Bool) (ks : List LeafK)
  | del (g : Bool) (ks : List LeafK)
  | clr (zero : List V)
  | nxt
  | bad
  | call (f : FuncId)
  | callv
  deriving Inhabited

/-- The kinds that act: all others leave what is there as it is. -/
def Kind.acts : Kind → Bool
  | .st _ | .app _ _ | .appStr | .cpy _ | .mset _ _ | .del _ _ | .clr _ | .nxt | .bad | .call _ | .callv => true
  | _ => false

/-- The kinds whose answer hangs on the heap. -/
def Kind.reads : Kind → Bool
  | .ld _ | .lkp _ _ _ _ | .lenM | .b2s | .eqP _ | .ent | .rng => true
  | _ => false

inductive Eff where
  | val (v : V)
  | new (b : Blk) (mk : Nat → V)

def wrapK (k : IntKind) (n : Int) : Int := k.wrap n

def strLt : List UInt8 → List UInt8 → Bool
  | _, [] => false
  | [], _ :: _ => true
  | a :: x, b :: y => a < b || (a == b && strLt x y)

def intBin (op : BinOp) (k : IntKind) (a b : Int) : Option V :=
  match op with
  | .add => some (.int k (k.wrap (a + b)))
  | .sub => some (.int k (k.wrap (a - b)))
  | .mul => some (.int k (k.wrap (a * b)))
  | .quo => if b = 0 then none else some (.int k (k.wrap (a.tdiv b)))
  | .rem => if b = 0 then none else some (.int k (a.tmod b))
  | .and => some (.int k (k.wrap (BitVec.ofInt k.bits a &&& BitVec.ofInt k.bits b).toNat))
  | .or => some (.int k (k.wrap (BitVec.ofInt k.bits a ||| BitVec.ofInt k.bits b).toNat))
  | .xor => some (.int k (k.wrap (BitVec.ofInt k.bits a ^^^ BitVec.ofInt k.bits b).toNat))
  | .andNot => some (.int k (k.wrap (BitVec.ofInt k.bits a &&& ~~~(BitVec.ofInt k.bits b)).toNat))
  | .eql => some (.bool (a == b))
  | .neq => some (.bool (a != b))
  | .lss => some (.bool (decide (a < b)))
  | .leq => some (.bool (decide (a ≤ b)))
  | .gtr => some (.bool (decide (a > b)))
  | .geq => some (.bool (decide (a ≥ b)))
  | _ => none

def strBin (op : BinOp) (a b : List UInt8) : Option V :=
  match op with
  | .add => if a.length + b.length ≤ 9223372036854775807 then some (.str (a ++ b)) else none
  | .eql => some (.bool (a == b))
  | .neq => some (.bool (!(a == b)))
  | .lss => some (.bool (strLt a b))
  | .leq => some (.bool (strLt a b || a == b))
  | .gtr => some (.bool (!(strLt a b || a == b)))
  | .geq => some (.bool (!strLt a b))
  | _ => none

def binV (op : BinOp) : V → V → Option V
  | .int k a, .int k' b =>
    match op with
    | .shl => if b < 0 then none else some (.int k (k.wrap (a * 2 ^ min b.toNat k.bits)))
    | .shr => if b < 0 then none else some (.int k (a.fdiv (2 ^ min b.toNat k.bits)))
    | _ => if k = k' then intBin op k a b else none
  | .str a, .str b => strBin op a b
  | _, _ => none

def unV (op : UnOp) : V → Option V
  | .int k n =>
    match op with
    | .neg => some (.int k (k.wrap (0 - n)))
    | .xor => some (.int k (k.wrap (BitVec.ofInt k.bits (if k.signed then -1 else k.max) ^^^ BitVec.ofInt k.bits n).toNat))
    | _ => none
  | .bool b => match op with
    | .not => some (.bool !b)
    | _ => none
  | _ => none

/-- Are two scalars that may be compared cell by cell the same? -/
def cellEq : LeafK → V → V → Option Bool
  | .i, .int k a, .int k' b => if k = k' then some (a == b) else none
  | .s, .str a, .str b => some (a == b)
  | .b, .bool a, .bool b => some (a == b)
  | _, _, _ => none

def cellsEq : List LeafK → List V → List V → Option Bool
  | [], [], [] => some true
  | k :: ks, a :: as, b :: bs => match cellEq k a b, cellsEq ks as bs with
    | some x, some y => some (x && y)
    | _, _ => none
  | _, _, _ => none

/-- A value as cells. -/
def V.cells : V → List V
  | .agg cs => cs
  | v => [v]

def fillV (zero : List V) : List (Nat × Nat) → List V → Option (List V)
  | [], [] => some zero
  | (off, sz) :: ps, v :: vs => if v.cells.length = sz ∧ off + sz ≤ zero.length ∧ v.cells.all V.isCell then fillV (wr zero off v.cells) ps vs else none
  | _, _ => none

def Heap.row (H : Heap) (id off n : Nat) : Option (List V) :=
  match H.blk id with
  | .cells _ _ cs => if off + n ≤ cs.length then some ((cs.drop off).take n) else none
  | _ => none

def byteOf : V → Option UInt8
  | .int .u8 n => if 0 ≤ n ∧ n < 256 then some (UInt8.ofNat n.toNat) else none
  | _ => none

def bytesOfRow : List V → Option (List UInt8)
  | [] => some []
  | v :: vs => match byteOf v, bytesOfRow vs with
    | some b, some bs => some (b :: bs)
    | _, _ => none

def rowOfBytes (l : List UInt8) : List V := l.map fun b => .int .u8 (b.toNat : Int)

/-- Has a key the shape of its type? -/
def keyFit (g : Bool) (ks : List LeafK) (k : V) : Bool :=
  match g, k with
  | true, .agg cs => cs.length == ks.length
  | true, _ => false
  | false, v => v.isCell && ks.length == 1

def findE (g : Bool) (ks : List LeafK) (k : V) : List (V × V × Nat) → Option (Option (Nat × V × V))
  | [] => some none
  | (k', v, _) :: es =>
    if keyFit g ks k' = false then none else
    match cellsEq ks k.cells k'.cells with
    | some true => some (some (0, k', v))
    | some false => match findE g ks k es with
      | some (some (i, x, y)) => some (some (i + 1, x, y))
      | r => r
    | none => none

/-- The range of a slice expression: the lower and upper bound. -/
def bounds (lo hi : Bool) (len : Nat) (most : Nat) : List V → Option (Nat × Nat)
  | l =>
    match lo, hi, l with
    | false, false, [] => some (0, len)
    | true, false, [.int .i64 a] => if 0 ≤ a ∧ a ≤ len then some (a.toNat, len) else none
    | false, true, [.int .i64 b] => if 0 ≤ b ∧ b ≤ most then some (0, b.toNat) else none
    | true, true, [.int .i64 a, .int .i64 b] => if 0 ≤ b ∧ b ≤ most ∧ 0 ≤ a ∧ a ≤ b then some (a.toNat, b.toNat) else none
    | _, _, _ => none

def kMov : List V → Option Eff
  | [x] => some (.val x)
  | _ => none

def kPick : List V → Option Eff
  | [.bool c, a, b] => some (.val (if c then a else b))
  | _ => none

def kNilc : List V → Option Eff
  | [.ptr (some p)] => some (.val (.ptr (some p)))
  | [.func f cs] => some (.val (.func f cs))
  | _ => none

def kFa (off : Nat) : List V → Option Eff
  | [.ptr (some (id, o))] => some (.val (.ptr (some (id, o + off))))
  | _ => none

def kIaA (len : Nat) (esz : Nat) : List V → Option Eff
  | [.ptr (some (id, o)), .int _ i] => if 0 ≤ i ∧ i < len then some (.val (.ptr (some (id, o + i.toNat * esz)))) else none
  | _ => none

def kIaS (esz : Nat) : List V → Option Eff
  | [.slice (some (id, o)) len _ _, .int _ i] => if 0 ≤ i ∧ i < len then some (.val (.ptr (some (id, o + i.toNat * esz)))) else none
  | _ => none

def kIxA (len : Nat) (esz : Nat) (agg : Bool) : List V → Option Eff
  | [.agg cs, .int _ i] =>
    if 0 ≤ i ∧ i < len then
      if agg then some (.val (.agg ((cs.drop (i.toNat * esz)).take esz)))
      else (cs[i.toNat * esz]?).map .val
    else none
  | _ => none

def kIxStr : List V → Option Eff
  | [.str s, .int _ i] => if 0 ≤ i then (s[i.toNat]?).map fun b => .val (.int .u8 (b.toNat : Int)) else none
  | _ => none

def kFld (off : Nat) (sz : Nat) (agg : Bool) : List V → Option Eff
  | [.agg cs] => if agg then some (.val (.agg ((cs.drop off).take sz))) else (cs[off]?).map .val
  | _ => none

def kBin (op : BinOp) : List V → Option Eff
  | [x, y] => (binV op x y).map .val
  | _ => none

def kEqB (neg : Bool) : List V → Option Eff
  | [.bool a, .bool b] => some (.val (.bool (xor neg (a == b))))
  | _ => none

def kEqF (neg : Bool) (ks : List LeafK) : List V → Option Eff
  | [.agg a, .agg b] => (cellsEq ks a b).map fun r => .val (.bool (xor neg r))
  | _ => none

def kEqN (neg : Bool) : List V → Option Eff
  | [.ptr a, .ptr none] => some (.val (.bool (xor neg a.isNone)))
  | [.ptr none, .ptr (some _)] => some (.val (.bool (xor neg false)))
  | [.slice a _ _ _, .slice none _ _ _] => some (.val (.bool (xor neg a.isNone)))
  | [.nilIface, .nilIface] => some (.val (.bool (xor neg true)))
  | [.iface _ _, .nilIface] => some (.val (.bool (xor neg false)))
  | _ => none

def kUn (op : UnOp) : List V → Option Eff
  | [x] => (unV op x).map .val
  | _ => none

def kCvI (k : IntKind) : List V → Option Eff
  | [.int _ n] => some (.val (.int k (k.wrap n)))
  | _ => none

def kLenS : List V → Option Eff
  | [.slice _ n _ _] => some (.val (.int .i64 n))
  | _ => none

/-- The room of a slice, where it is known. -/
def kCapS : List V → Option Eff
  | [.slice none _ _ _] => some (.val (.int .i64 0))
  | [.slice (some _) n true _] => some (.val (.int .i64 n))
  | _ => none

def kLenT : List V → Option Eff
  | [.str s] => some (.val (.int .i64 s.length))
  | _ => none

def kLenK (n : Nat) : List V → Option Eff
  | [_] => some (.val (.int .i64 n))
  | _ => none

def kSlS (esz : Nat) (lo hi : Bool) : List V → Option Eff
  | .slice a len full es :: l => if es = esz ∨ a = none then (bounds lo hi len len l).map fun (x, y) => .val (.slice (a.map fun (id, o) => (id, o + x * esz)) (y - x) (full && y == len) es) else none
  | _ => none

def kSl3 (esz : Nat) : List V → Option Eff
  | [.slice a len _ es, .int .i64 x, .int .i64 y, .int .i64 z] =>
    if 0 ≤ x ∧ x ≤ y ∧ y ≤ z ∧ z ≤ len ∧ (es = esz ∨ a = none) then some (.val (.slice (a.map fun (id, o) => (id, o + x.toNat * esz)) (y.toNat - x.toNat) (y == z) es)) else none
  | _ => none

def kSlStr (lo : Bool) (hi : Bool) : List V → Option Eff
  | .str s :: l => (bounds lo hi s.length s.length l).map fun (x, y) => .val (.str ((s.drop x).take (y - x)))
  | _ => none

def kExt (i : Nat) : List V → Option Eff
  | [.tuple vs] => (vs[i]?).map .val
  | _ => none

def kBld (zero : List V) (parts : List (Nat × Nat)) : List V → Option Eff
  | l => (fillV zero parts l).map fun cs => .val (.agg cs)

def kMkI (t : TypeId) : List V → Option Eff
  | [x] => some (.val (.iface t x))
  | _ => none

def kMkF (f : FuncId) : List V → Option Eff
  | l => some (.val (.func f l))

def kMaxI : List V → Option Eff
  | [.int k a, .int _ b] => some (.val (.int k (if b > a then b else a)))
  | _ => none

def kMinI : List V → Option Eff
  | [.int k a, .int _ b] => some (.val (.int k (if b < a then b else a)))
  | _ => none

def kLd (H : Heap) (n : Option Nat) : List V → Option Eff
  | [.ptr (some (id, o))] => match n with
    | none => match H.blk id with
      | .cells _ _ cs => (cs[o]?).map .val
      | _ => none
    | some n => (H.row id o n).map fun cs => .val (.agg cs)
  | _ => none

def kLkp (H : Heap) (g : Bool) (ks : List LeafK) (zero : V) (ok : Bool) : List V → Option Eff
  | [.map none, k] => if keyFit g ks k = false then none else some (.val (if ok then .tuple [zero, .bool false] else zero))
  | [.map (some id), k] => match H.blk id with
    | .map es _ => if keyFit g ks k = false then none else match findE g ks k es with
      | some (some (_, _, v)) => some (.val (if ok then .tuple [v, .bool true] else v))
      | some none => some (.val (if ok then .tuple [zero, .bool false] else zero))
      | none => none
    | _ => none
  | _ => none

def kLenM (H : Heap) : List V → Option Eff
  | [.map (some id)] => match H.blk id with
    | .map es _ => some (.val (.int .i64 es.length))
    | _ => none
  | _ => none

def kB2s (H : Heap) : List V → Option Eff
  | [.slice none _ _ _] => some (.val (.str []))
  | [.slice (some (id, o)) len _ _] => ((H.row id o len).bind bytesOfRow).map fun s => .val (.str s)
  | _ => none

def kEqP (H : Heap) (neg : Bool) : List V → Option Eff
  | [.ptr none, .ptr b] => some (.val (.bool (xor neg b.isNone)))
  | [.ptr (some _), .ptr none] => some (.val (.bool (xor neg false)))
  | [.ptr (some (i, x)), .ptr (some (j, y))] => match H.blk i, H.blk j with
    | .cells 0 false _, .cells 0 false _ => some (.val (.bool (xor neg (i == j && x == y))))
    | _, _ => none
  | _ => none

def kEnt (H : Heap) : List V → Option Eff
  | [.ptr (some (it, 0))] => match H.blk it with
    | .iter m _ seen stepped => match H.blk m, seen.getLast? with
      | .map es clock, some stamp => if clock = stepped then (es.find? fun e => e.2.2 == stamp).map fun e => .val (.tuple [e.1, e.2.1]) else none
      | _, _ => none
    | _ => none
  | _ => none

def kRng (H : Heap) : List V → Option Eff
  | [.map (some id)] => match H.blk id with
    | .map _ clock => some (.new (.iter id clock [] clock) fun it => .ptr (some (it, 0)))
    | _ => none
  | _ => none

def kAlloc (zero : List V) : List V → Option Eff
  | [] => some (.new (.cells 0 false zero) fun id => .ptr (some (id, 0)))
  | _ => none

def kBox : List V → Option Eff
  | [v] => if v.cells.all V.isCell then some (.new (.cells 0 false v.cells) fun id => .ptr (some (id, 0))) else none
  | _ => none

def kBsl (esz : Nat) (len : Nat) (zero : List V) (parts : List (Nat × Nat)) : List V → Option Eff
  | l => (fillV zero parts l).map fun cs => .new (.cells esz false cs) fun id => .slice (some (id, 0)) len true esz

def kMkM : List V → Option Eff
  | [] => some (.new (.map [] 0) fun id => .map (some id))
  | _ => none

def kMkS (esz : Nat) (bytes : Nat) (zero : List V) : List V → Option Eff
  | [.int .i64 n, .int .i64 c] =>
    if 0 ≤ n ∧ n ≤ c ∧ bytes * c ≤ 2 ^ 48 ∧ c ≤ 2 ^ 48 then some (.new (.cells esz false (List.replicate n.toNat zero).flatten) fun id => .slice (some (id, 0)) n.toNat (n == c) esz) else none
  | _ => none

def kS2b : List V → Option Eff
  | [.str s] => some (.new (.cells 1 false (rowOfBytes s)) fun id => .slice (some (id, 0)) s.length false 1)
  | _ => none

/-- What a kind that does not act makes of its operands. -/
def Kind.ne (H : Heap) (k : Kind) : List V → Option Eff :=
  match k with
  | .mov => kMov
  | .pick => kPick
  | .nilc => kNilc
  | .fa off => kFa off
  | .iaA len esz => kIaA len esz
  | .iaS esz => kIaS esz
  | .ixA len esz agg => kIxA len esz agg
  | .ixStr => kIxStr
  | .fld off sz agg => kFld off sz agg
  | .bin op => kBin op
  | .eqB neg => kEqB neg
  | .eqF neg ks => kEqF neg ks
  | .eqN neg => kEqN neg
  | .un op => kUn op
  | .cvI k => kCvI k
  | .lenS => kLenS
  | .capS => kCapS
  | .lenT => kLenT
  | .lenK n => kLenK n
  | .slS esz lo hi mx => if mx then kSl3 esz else kSlS esz lo hi
  | .slStr lo hi => kSlStr lo hi
  | .ext i => kExt i
  | .bld zero parts => kBld zero parts
  | .mkI t => kMkI t
  | .mkF f => kMkF f
  | .maxI => kMaxI
  | .minI => kMinI
  | .ld n => kLd H n
  | .lkp g ks zero ok => kLkp H g ks zero ok
  | .lenM => kLenM H
  | .b2s => kB2s H
  | .eqP neg => kEqP H neg
  | .ent => kEnt H
  | .rng => kRng H
  | .alloc zero => kAlloc zero
  | .box => kBox
  | .bsl esz len zero parts => kBsl esz len zero parts
  | .mkM => kMkM
  | .mkS esz bytes zero => kMkS esz bytes zero
  | .s2b => kS2b
  | _ => fun _ => none

/-- One cell's block is written. -/
def Heap.write (H : Heap) (id off : Nat) (vs : List V) : Option Heap :=
  match H.blk id with
  | .cells es false cs => if off + vs.length ≤ cs.length then some (H.set id (.cells es false (wr cs off vs))) else none
  | _ => none

def appendV (esz bytes : Nat) (H : Heap) (p : Option (Nat × Nat)) (len : Nat) (full : Bool) (es0 : Nat) (m : Nat) (new : List V) : Option (V × Heap) :=
  if m = 0 then some (.slice p len full es0, H)
  else if (len + m) * bytes ≤ 2 ^ 40 ∧ len + m ≤ 2 ^ 40 then
    match p with
    | none => some (.slice (some (H.next, 0)) (len + m) false esz, H.push (.cells esz false new))
    | some (id, off) =>
      match H.blk id with
      | .cells es ro cs =>
        if off + len * esz ≤ cs.length ∧ es = esz then
          if full then some (.slice (some (H.next, 0)) (len + m) false esz, H.push (.cells esz false ((cs.drop off).take (len * esz) ++ new)))
          else if ro then none
          else some (.slice (some (H.next, 0)) (len + m) false esz, (H.set id .dead).push (.cells esz false ((cs.drop off).take (len * esz) ++ new)))
        else none
      | _ => none
  else none

def xSt (H : Heap) (n : Nat) : List V → Option (V × Heap)
  | [.ptr (some (id, o)), v] =>
    if v.cells.length = n ∧ v.cells.all V.isCell then (H.write id o v.cells).map fun H' => (V.undef, H') else none
  | _ => none

def xApp (H : Heap) (esz : Nat) (bytes : Nat) : List V → Option (V × Heap)
  | [.slice p len full es, .slice q m _ _] =>
    if m = 0 then some (.slice p len full es, H) else
    match q with
    | none => none
    | some (id, o) => match H.row id o (m * esz) with
      | some new => appendV esz bytes H p len full es m new
      | none => none
  | _ => none

def xAppStr (H : Heap) : List V → Option (V × Heap)
  | [.slice p len full es, .str s] => appendV 1 1 H p len full es s.length (rowOfBytes s)
  | _ => none

def xCpy (H : Heap) (esz : Nat) : List V → Option (V × Heap)
  | [.slice p len _ _, .slice q m _ _] =>
    let n := min m len
    if n = 0 then some (.int .i64 0, H) else
    match p, q with
    | some (id, o), some (id', o') => match H.row id' o' (n * esz) with
      | some new => (H.write id o new).map fun H' => (.int .i64 n, H')
      | none => none
    | _, _ => none
  | _ => none

def xClr (H : Heap) (zero : List V) : List V → Option (V × Heap)
  | [.slice p len _ _] => if len = 0 then some (.tuple [], H) else match p with
    | some (id, o) => (H.write id o (List.replicate len zero).flatten).map fun H' => (.tuple [], H')
    | none => none
  | _ => none

def xMset (H : Heap) (g : Bool) (ks : List LeafK) : List V → Option (V × Heap)
  | [.map (some id), k, v] => match H.blk id with
    | .map es clock => if keyFit g ks k = false then none else match findE g ks k es with
      | some (some (i, _, _)) => some (V.undef, H.set id (.map (es.set i (k, v, ((es[i]?).map (·.2.2)).getD 0)) clock))
      | some none => some (V.undef, H.set id (.map (es ++ [(k, v, clock)]) (clock + 1)))
      | none => none
    | _ => none
  | _ => none

def xDel (H : Heap) (g : Bool) (ks : List LeafK) : List V → Option (V × Heap)
  | [.map (some id), k] => match H.blk id with
    | .map es clock => if keyFit g ks k = false then none else match findE g ks k es with
      | some (some (i, _, _)) => some (.tuple [], H.set id (.map (es.eraseIdx i) clock))
      | some none => some (.tuple [], H)
      | none => none
    | _ => none
  | _ => none

/-- What a kind that acts, but for calls, makes of its operands and the heap. -/
def Kind.ef (H : Heap) (k : Kind) : List V → Option (V × Heap) :=
  match k with
  | .st n => xSt H n
  | .app esz bytes => xApp H esz bytes
  | .appStr => xAppStr H
  | .cpy esz => xCpy H esz
  | .clr zero => xClr H zero
  | .mset g ks => xMset H g ks
  | .del g ks => xDel H g ks
  | _ => fun _ => none

/-- The next step of an iteration: what may come of it. -/
def nextV (H : Heap) (it : Nat) (K : V → Heap → Prop) : Prop :=
  match H.blk it with
  | .iter m since seen stepped => match H.blk m with
    | .map es clock =>
      let left := es.filter fun e => !seen.contains e.2.2
      let old := left.filter fun e => e.2.2 < since
      (seen = [] ∨ es = [] ∨ ¬ ∀ e ∈ es, stepped ≤ e.2.2) ∧
      (old = [] → K (.tuple [.bool false]) H) ∧
      ∀ e ∈ left, K (.tuple [.bool true, e.1, e.2.1]) (H.set it (.iter m since (seen ++ [e.2.2]) clock))
    | _ => False
  | _ => False

end Go.Cn
