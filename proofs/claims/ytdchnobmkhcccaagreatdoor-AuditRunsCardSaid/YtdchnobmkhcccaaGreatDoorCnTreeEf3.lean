/- The other effects, told as what is to be done. -/
import Derived.Test.YtdchnobmkhcccaaGreatDoorCnTreeEf2
namespace Go.Cn
set_option linter.unusedVariables false
set_option linter.unusedSimpArgs false

def dApp (h : HT) (esz bytes : Nat) : List V → Option (V × Do)
  | [.slice p len full es, .slice q m _ _] => match Nat.beq m 0 with
    | true => some (.slice p len full es, .none)
    | false => match q with
      | none => none
      | some (id, o) => match h.row id o (m * esz) with
        | some new => dAppend esz bytes h p len full es m new
        | none => none
  | _ => none

theorem dApp_ok {h : HT} {esz bytes : Nat} {vs : List V} {v : V} {d : Do} (e : dApp h esz bytes vs = some (v, d)) : xApp h.heap esz bytes vs = some (v, d.onH h.heap) := by
  unfold dApp at e
  split at e
  case h_2 => cases e
  simp only [xApp]
  split at e
  · rename_i hm
    cases e
    rw [if_pos (Nat.eq_of_beq_eq_true hm)]
    rfl
  · rename_i hm
    rw [if_neg (Nat.ne_of_beq_eq_false hm)]
    split at e
    · cases e
    · split at e
      · rename_i new hr
        simp only [HT.row_ok hr]
        exact dAppend_ok e
      · cases e

def dAppStr (h : HT) : List V → Option (V × Do)
  | [.slice p len full es, .str s] => dAppend 1 1 h p len full es s.length (rowOfBytes s)
  | _ => none

theorem dAppStr_ok {h : HT} {vs : List V} {v : V} {d : Do} (e : dAppStr h vs = some (v, d)) : xAppStr h.heap vs = some (v, d.onH h.heap) := by
  unfold dAppStr at e
  split at e
  case h_2 => cases e
  exact dAppend_ok e

def dCpy (h : HT) (esz : Nat) : List V → Option (V × Do)
  | [.slice p len _ _, .slice q m _ _] => match Nat.beq (min m len) 0 with
    | true => some (.int .i64 0, .none)
    | false => match p, q with
      | some (id, o), some (id', o') => match h.row id' o' (min m len * esz) with
        | some new => match dWrite h id o new with
          | some d => some (.int .i64 (min m len : Nat), d)
          | none => none
        | none => none
      | _, _ => none
  | _ => none

theorem dCpy_ok {h : HT} {esz : Nat} {vs : List V} {v : V} {d : Do} (e : dCpy h esz vs = some (v, d)) : xCpy h.heap esz vs = some (v, d.onH h.heap) := by
  unfold dCpy at e
  split at e
  case h_2 => cases e
  simp only [xCpy]
  split at e
  · rename_i hm
    cases e
    rw [if_pos (Nat.eq_of_beq_eq_true hm)]
    rfl
  · rename_i hm
    rw [if_neg (Nat.ne_of_beq_eq_false hm)]
    split at e
    · split at e
      · rename_i new hr
        split at e
        · rename_i d' hd
          cases e
          simp only [HT.row_ok hr, dWrite_ok hd]
          rfl
        · cases e
      · cases e
    · cases e

def dClr (h : HT) (zero : List V) : List V → Option (V × Do)
  | [.slice p len _ _] => match Nat.beq len 0 with
    | true => some (.tuple [], .none)
    | false => match p with
      | some (id, o) => match dWrite h id o (List.replicate len zero).flatten with
        | some d => some (.tuple [], d)
        | none => none
      | none => none
  | _ => none

theorem dClr_ok {h : HT} {zero : List V} {vs : List V} {v : V} {d : Do} (e : dClr h zero vs = some (v, d)) : xClr h.heap zero vs = some (v, d.onH h.heap) := by
  unfold dClr at e
  split at e
  case h_2 => cases e
  simp only [xClr]
  split at e
  · rename_i hm
    cases e
    rw [if_pos (Nat.eq_of_beq_eq_true hm)]
    rfl
  · rename_i hm
    rw [if_neg (Nat.ne_of_beq_eq_false hm)]
    split at e
    · split at e
      · rename_i d' hd
        cases e
        simp only [dWrite_ok hd]
        rfl
      · cases e
    · cases e

def dMset (h : HT) (g : Bool) (ks : List LeafK) : List V → Option (V × Do)
  | [.map (some id), k, v] => match h.blk id with
    | .map es clock => match keyFit g ks k with
      | false => none
      | true => match findE g ks k es with
        | some (some (i, _, _)) => some (V.undef, .set id (.map (es.set i (k, v, ((es[i]?).map (·.2.2)).getD 0)) clock))
        | some none => some (V.undef, .set id (.map (es ++ [(k, v, clock)]) (clock + 1)))
        | none => none
    | _ => none
  | _ => none

theorem dMset_ok {h : HT} {g : Bool} {ks : List LeafK} {vs : List V} {v : V} {d : Do} (e : dMset h g ks vs = some (v, d)) : xMset h.heap g ks vs = some (v, d.onH h.heap) := by
  unfold dMset at e
  split at e
  case h_2 => cases e
  simp only [xMset, HT.heap_blk]
  split at e
  case h_2 => cases e
  rename_i es clock hb
  rw [hb]
  split at e
  · cases e
  · rename_i hf
    simp only [hf]
    rw [if_neg (by simp)]
    split at e
    · rename_i hfe; cases e; simp only [hfe]; rfl
    · rename_i hfe; cases e; simp only [hfe]; rfl
    · cases e

def dDel (h : HT) (g : Bool) (ks : List LeafK) : List V → Option (V × Do)
  | [.map (some id), k] => match h.blk id with
    | .map es clock => match keyFit g ks k with
      | false => none
      | true => match findE g ks k es with
        | some (some (i, _, _)) => some (.tuple [], .set id (.map (es.eraseIdx i) clock))
        | some none => some (.tuple [], .none)
        | none => none
    | _ => none
  | _ => none

theorem dDel_ok {h : HT} {g : Bool} {ks : List LeafK} {vs : List V} {v : V} {d : Do} (e : dDel h g ks vs = some (v, d)) : xDel h.heap g ks vs = some (v, d.onH h.heap) := by
  unfold dDel at e
  split at e
  case h_2 => cases e
  simp only [xDel, HT.heap_blk]
  split at e
  case h_2 => cases e
  rename_i es clock hb
  rw [hb]
  split at e
  · cases e
  · rename_i hf
    simp only [hf]
    rw [if_neg (by simp)]
    split at e
    · rename_i hfe; cases e; simp only [hfe]; rfl
    · rename_i hfe; cases e; simp only [hfe]; rfl
    · cases e

/-- What is to be done by a kind that acts. -/
def Kind.todo (h : HT) (k : Kind) : List V → Option (V × Do) :=
  match k with
  | .st n => dSt h n
  | .app esz bytes => dApp h esz bytes
  | .appStr => dAppStr h
  | .cpy esz => dCpy h esz
  | .clr zero => dClr h zero
  | .mset g ks => dMset h g ks
  | .del g ks => dDel h g ks
  | _ => fun _ => none

theorem Kind.todo_ok {h : HT} {k : Kind} {vs : List V} {v : V} {d : Do} (e : k.todo h vs = some (v, d)) : k.ef h.heap vs = some (v, d.onH h.heap) := by
  cases k <;> first | (cases e; done) | skip
  · exact dSt_ok e
  · exact dApp_ok e
  · exact dAppStr_ok e
  · exact dCpy_ok e
  · exact dMset_ok e
  · exact dDel_ok e
  · exact dClr_ok e

end Go.Cn
