/- Pure functions that stand for functions that are not walked. -/
import Derived.Test.YtlnpgjfdlefmoaaGreatDoorCnRun
namespace Go.Cn
set_option linter.unusedVariables false
set_option linter.unusedSimpArgs false

/-- What is not reached. -/
def noF (vs : List V) (h : HT) : Option J := none

noncomputable def retDo (x : Option (V × Do)) (h : HT) : Option J := bndE x h ret1

/-- math/bits.Len: a number's bits. -/
def cBitsLen : List V → HT → Option J
  | [.int .u64 (.ofNat n)], h => match Nat.beq n 0 with
    | true => ret1 (.int .i64 (.ofNat 0)) h
    | false => ret1 (.int .i64 (.ofNat (Nat.log2 n + 1))) h
  | _, _ => none

def findB : List UInt8 → Nat → Nat → Option Nat
  | [], _, _ => none
  | x :: l, b, i => match Nat.beq x.toNat b with
    | true => some i
    | false => findB l b (i + 1)

/-- internal/stringslite.IndexByte. -/
noncomputable def cIndexByte : List V → HT → Option J
  | [.str s, .int .u8 (.ofNat b)], h => match Nat.ble b 255 with
    | true => match findB s b 0 with
      | some i => ret1 (.int .i64 (.ofNat i)) h
      | none => ret1 (.int .i64 (.negSucc 0)) h
    | false => none
  | _, _ => none

/-- slices.Grow of nil. -/
noncomputable def cGrow (es bytes : Nat) : List V → HT → Option J
  | [.slice none n f e, .int .i64 (.ofNat k)], h => match Nat.beq k 0 with
    | true => ret1 (.slice none n f e) h
    | false => match Nat.ble (k * bytes) 1099511627776 && Nat.ble k 1099511627776 with
      | true => retDo (some (.slice (some (h.next, 0)) 0 false es, .new (.cells es false []))) h
      | false => none
  | _, _ => none

/-- slices.Insert. -/
noncomputable def cInsert (es bytes : Nat) : List V → HT → Option J
  | [.slice p n f e, .int .i64 (.ofNat k), .slice q m _ _], h => match Nat.beq m 0 with
    | true => none
    | false => match Nat.ble k n && (Nat.ble ((n + m) * bytes) 1099511627776 && Nat.ble (n + m) 1099511627776) with
      | false => none
      | true => match q with
        | none => none
        | some (id', o') => match h.row id' o' (m * es) with
          | none => none
          | some new => match p with
            | none => retDo (some (.slice (some (h.next, 0)) m false es, .new (.cells es false new))) h
            | some (id, o) => match h.blk id with
              | .cells e' false cs => match Nat.ble (o + n * es) cs.length && (Nat.beq e' es && !Nat.beq id id') with
                | true =>
                  let row := (cs.drop o).take (n * es)
                  retDo (some (.slice (some (h.next, 0)) (n + m) false es, .move id (.cells es false (row.take (k * es) ++ new ++ row.drop (k * es))))) h
                | false => none
              | _ => none
  | _, _ => none

/-- slices.Delete: what stands behind goes down, what is left over is zeroed. -/
noncomputable def cDelete (es : Nat) (zero : List V) : List V → HT → Option J
  | [.slice p n f e, .int .i64 (.ofNat i), .int .i64 (.ofNat j)], h => match Nat.ble (i + 1) j && (Nat.ble j n && Nat.beq e es) with
    | false => none
    | true => match p with
      | none => none
      | some (id, o) => match h.row id (o + j * es) ((n - j) * es) with
        | none => none
        | some new => match dWrite h id (o + i * es) new with
          | none => none
          | some d1 => match d1.onT h with
            | none => none
            | some h1 => match dWrite h1 id (o + (i + (n - j)) * es) (List.replicate (j - i) zero).flatten with
              | none => none
              | some d2 => match d2.onT h1 with
                | none => none
                | some h2 => ret1 (.slice (some (id, o)) (i + (n - j)) false es) h2
  | _, _ => none

/-- A letter of noughts. -/
noncomputable def zLetter : List V := [(.int .i64 (.ofNat (nat_lit 0))), (.int .i64 (.ofNat (nat_lit 0))), (.int .i64 (.ofNat (nat_lit 0))), (.int .i64 (.ofNat (nat_lit 0))), (.int .i64 (.ofNat (nat_lit 0))), (.int .i64 (.ofNat (nat_lit 0))), (.int .i64 (.ofNat (nat_lit 0))), (.int .i64 (.ofNat (nat_lit 0))), (.int .i64 (.ofNat (nat_lit 0))), (.int .i64 (.ofNat (nat_lit 0))), (.str (sb [])), (.str (sb [])), (.str (sb [])), (.str (sb [])), (.int .i64 (.ofNat (nat_lit 0))), (.int .i64 (.ofNat (nat_lit 0))), (.int .i64 (.ofNat (nat_lit 0))), (.int .i64 (.ofNat (nat_lit 0))), (.int .i64 (.ofNat (nat_lit 0))), (.int .i64 (.ofNat (nat_lit 0))), (.int .i64 (.ofNat (nat_lit 0))), (.int .i64 (.ofNat (nat_lit 0))), (.int .i64 (.ofNat (nat_lit 0))), (.int .i64 (.ofNat (nat_lit 0))), (.int .i64 (.ofNat (nat_lit 0))), (.int .i64 (.ofNat (nat_lit 0))), (.int .i64 (.ofNat (nat_lit 0))), (.int .i64 (.ofNat (nat_lit 0))), (.int .i64 (.ofNat (nat_lit 0))), (.int .i64 (.ofNat (nat_lit 0))), (.str (sb [])), (.str (sb [])), (.str (sb [])), (.str (sb [])), (.int .i64 (.ofNat (nat_lit 0))), (.int .i64 (.ofNat (nat_lit 0))), (.int .i64 (.ofNat (nat_lit 0))), (.int .i64 (.ofNat (nat_lit 0))), (.int .i64 (.ofNat (nat_lit 0))), (.int .i64 (.ofNat (nat_lit 0))), (.int .i64 (.ofNat (nat_lit 0))), (.int .i64 (.ofNat (nat_lit 0))), (.bool false), (.int .i64 (.ofNat (nat_lit 0))), (.int .i64 (.ofNat (nat_lit 0))), (.int .i64 (.ofNat (nat_lit 0))), (.int .i64 (.ofNat (nat_lit 0))), (.int .i64 (.ofNat (nat_lit 0))), (.int .i64 (.ofNat (nat_lit 0))), (.int .i64 (.ofNat (nat_lit 0))), (.str (sb []))]

noncomputable def cDelLetter : List V → HT → Option J := cDelete 51 zLetter

def h00 : HT := ⟨0, .leaf, [], 0, fun _ => .dead⟩

def saysTrue (r : Option J) : Bool :=
  match r with
  | some j => match j with
    | ⟨_, vs, _⟩ => match vs with
      | v :: _ => match v with
        | .bool b => b
        | _ => false
      | [] => false
  | none => false

end Go.Cn
