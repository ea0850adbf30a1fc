/- The effects, told as what is to be done. -/
import Derived.Test.YtdchnobmkhcccaaGreatDoorCnTreeEf
namespace Go.Cn
set_option linter.unusedVariables false
set_option linter.unusedSimpArgs false

def dWrite (h : HT) (id off : Nat) (vs : List V) : Option Do :=
  match h.blk id with
  | .cells es false cs => match Nat.ble (off + vs.length) cs.length with
    | true => some (.set id (.cells es false (wr cs off vs)))
    | false => none
  | _ => none

theorem dWrite_ok {h : HT} {id off : Nat} {vs : List V} {d : Do} (e : dWrite h id off vs = some d) : h.heap.write id off vs = some (d.onH h.heap) := by
  unfold dWrite at e
  unfold Heap.write
  rw [HT.heap_blk]
  split at e
  · rename_i es cs hb
    rw [hb]
    split at e
    · rename_i hl
      cases e
      simp only
      rw [if_pos (Nat.le_of_ble_eq_true hl)]
      rfl
    · cases e
  · cases e

def dSt (h : HT) (n : Nat) : List V → Option (V × Do)
  | [.ptr (some (id, o)), v] => match Nat.beq v.cells.length n with
    | true => match v.cells.all V.isCell with
      | true => match dWrite h id o v.cells with
        | some d => some (V.undef, d)
        | none => none
      | false => none
    | false => none
  | _ => none

theorem dSt_ok {h : HT} {n : Nat} {vs : List V} {v : V} {d : Do} (e : dSt h n vs = some (v, d)) : xSt h.heap n vs = some (v, d.onH h.heap) := by
  unfold dSt at e
  split at e
  case h_2 => cases e
  split at e
  case h_2 => cases e
  rename_i h1
  split at e
  case h_2 => cases e
  rename_i h2
  split at e
  case h_2 => cases e
  rename_i d' h3
  cases e
  simp only [xSt]
  rw [if_pos ⟨Nat.eq_of_beq_eq_true h1, h2⟩, dWrite_ok h3]
  rfl

def HT.row (h : HT) (id off n : Nat) : Option (List V) :=
  match h.blk id with
  | .cells _ _ cs => match Nat.ble (off + n) cs.length with
    | true => some ((cs.drop off).take n)
    | false => none
  | _ => none

theorem HT.row_ok {h : HT} {id off n : Nat} {l : List V} (e : h.row id off n = some l) : h.heap.row id off n = some l := by
  unfold HT.row at e
  unfold Heap.row
  rw [HT.heap_blk]
  split at e
  · rename_i es ro cs hb
    rw [hb]
    split at e
    · rename_i hl
      cases e
      simp only
      rw [if_pos (Nat.le_of_ble_eq_true hl)]
    · cases e
  · cases e

def dAppend (esz bytes : Nat) (h : HT) (p : Option (Nat × Nat)) (len : Nat) (full : Bool) (es0 : Nat) (m : Nat) (new : List V) : Option (V × Do) :=
  match Nat.beq m 0 with
  | true => some (.slice p len full es0, .none)
  | false => match Nat.ble ((len + m) * bytes) 1099511627776 && Nat.ble (len + m) 1099511627776 with
    | false => none
    | true => match p with
      | none => some (.slice (some (h.next, 0)) (len + m) false esz, .new (.cells esz false new))
      | some (id, off) => match h.blk id with
        | .cells es ro cs => match Nat.ble (off + len * esz) cs.length && Nat.beq es esz with
          | false => none
          | true => match full with
            | true => some (.slice (some (h.next, 0)) (len + m) false esz, .new (.cells esz false ((cs.drop off).take (len * esz) ++ new)))
            | false => match ro with
              | true => none
              | false => some (.slice (some (h.next, 0)) (len + m) false esz, .move id (.cells esz false ((cs.drop off).take (len * esz) ++ new)))
        | _ => none

theorem dAppend_ok {esz bytes : Nat} {h : HT} {p : Option (Nat × Nat)} {len : Nat} {full : Bool} {es0 m : Nat} {new : List V} {v : V} {d : Do} (e : dAppend esz bytes h p len full es0 m new = some (v, d)) :
    appendV esz bytes h.heap p len full es0 m new = some (v, d.onH h.heap) := by
  unfold dAppend at e
  unfold appendV
  split at e
  · rename_i hm
    cases e
    rw [if_pos (Nat.eq_of_beq_eq_true hm)]
    rfl
  · rename_i hm
    rw [if_neg (Nat.ne_of_beq_eq_false hm)]
    split at e
    · cases e
    · rename_i hb
      rw [Bool.and_eq_true] at hb
      have e40 : (2 : Nat) ^ 40 = 1099511627776 := by decide
      rw [if_pos ⟨by rw [e40]; exact Nat.le_of_ble_eq_true hb.1, by rw [e40]; exact Nat.le_of_ble_eq_true hb.2⟩]
      split at e
      · cases e; rfl
      · rename_i id off
        simp only [HT.heap_blk]
        split at e
        · rename_i es ro cs hbl
          rw [hbl]
          split at e
          · cases e
          · rename_i hc
            rw [Bool.and_eq_true] at hc
            simp only
            rw [if_pos ⟨Nat.le_of_ble_eq_true hc.1, Nat.eq_of_beq_eq_true hc.2⟩]
            split at e
            · cases e; rfl
            · split at e
              · cases e
              · cases e; rfl
        · cases e

end Go.Cn
