/- From the arguments of a row to the abstract machine's words. -/
import Derived.Test.YtlnpgjfdlefmoaaGreatDoorCnClosed
import Derived.Deep.Slices
import Derived.ChangeShapes
import Derived.ChangeArms
namespace Go.Cn
set_option linter.unusedVariables false
set_option linter.unusedSimpArgs false

/-- What a cell holds. -/
inductive Shp where
  | ob
  | oi (k : IntKind)
  | os
  | osl
  deriving DecidableEq, Inhabited

def Shp.fit : Shp → Value → Prop
  | .ob, v => ∃ t, v = .bool t
  | .oi k, v => ∃ n, v = .int k n ∧ (Lit.int k n).wf = true
  | .os, v => ∃ s : ByteArray, v = .string s ∧ s.size ≤ maxLen
  | .osl, v => v = .slice none 0 0 ∨ ∃ a len cap, v = .slice (some a) len cap ∧ len ≤ cap ∧ cap ≤ maxLen

def Fits (sh : List Shp) (cs : List Value) : Prop := cs.length = sh.length ∧ ∀ (i : Nat) (s : Shp) (v : Value), sh[i]? = some s → cs[i]? = some v → s.fit v

theorem Fits.append {a b : List Shp} {x y : List Value} (h : Fits a x) (h' : Fits b y) : Fits (a ++ b) (x ++ y) := by
  refine ⟨by simp [h.1, h'.1], fun i s v hs hv => ?_⟩
  by_cases hi : i < a.length
  · rw [List.getElem?_append_left hi] at hs
    rw [List.getElem?_append_left (by rw [h.1]; exact hi)] at hv
    exact h.2 i s v hs hv
  · rw [List.getElem?_append_right (by omega)] at hs
    rw [List.getElem?_append_right (by rw [h.1]; omega), h.1] at hv
    exact h'.2 _ s v hs hv

def shapeFs (P : Program) (sh : TypeId → Option (List Shp)) : Nat → List Field → Option (List Shp)
  | _, [] => some []
  | off, f :: fs => if f.offset = off then match sh f.type with
    | some s => if s.length = P.cellsOf f.type then match shapeFs P sh (off + s.length) fs with
      | some r => some (s ++ r)
      | none => none else none
    | none => none else none

def shapeT (P : Program) : Nat → TypeId → Option (List Shp)
  | 0, _ => none
  | n + 1, t => match P.underlying t with
    | some .bool => some [.ob]
    | some (.int k) => some [.oi k]
    | some .string => some [.os]
    | some (.slice _) => some [.osl]
    | some (.struct fs) => match shapeFs P (shapeT P n) 0 fs.toList with
      | some r => if r.length = P.cellsOf t then some r else none
      | none => none
    | _ => none

section
variable {H : Type} {enc : TypeId × Value → H} {P : Program} {w : World} {base : Nat} {spare : Nat → Bool} {held : Bool}

theorem fits_one {s : Shp} {v : Value} (h : s.fit v) : Fits [s] [v] := by
  refine ⟨rfl, fun i s' v' h1 h2 => ?_⟩
  cases i with
  | zero => simp at h1 h2; rw [← h1, ← h2]; exact h
  | succ i => simp at h1

theorem fits_fs {n : Nat} {sh : TypeId → Option (List Shp)} (ih : ∀ t s cs x, sh t = some s → DataW.trod enc P w base spare held n t cs = some x → Fits s cs) {cs : List Value} :
    ∀ (fs : List Field) (off : Nat) (r : List Shp), shapeFs P sh off fs = some r → (∀ f ∈ fs, ∃ y, DataW.trod enc P w base spare held n f.type ((cs.drop f.offset).take (P.cellsOf f.type)) = some y) → Fits r ((cs.drop off).take r.length)
  | [], off, r, h, _ => by cases h; exact ⟨by simp, fun i s v h => by simp at h⟩
  | f :: fs, off, r, h, hf => by
    simp only [shapeFs] at h
    split at h
    case isFalse => cases h
    rename_i ho
    split at h
    case h_2 => cases h
    rename_i s hs
    split at h
    case isFalse => cases h
    rename_i hl
    split at h
    case h_2 => cases h
    rename_i r' hr
    cases h
    obtain ⟨y, hy⟩ := hf f (by simp)
    have h1 := ih _ _ _ _ hs hy
    have h2 := fits_fs ih fs _ _ hr (fun g hg => hf g (by simp [hg]))
    rw [ho, ← hl] at h1
    have e : (cs.drop off).take (s ++ r').length = (cs.drop off).take s.length ++ (cs.drop (off + s.length)).take r'.length := by
      rw [List.length_append, List.take_add, List.drop_drop]
    rw [e]
    exact h1.append h2

theorem trod_fits : ∀ (n m : Nat) (t : TypeId) (s : List Shp) (cs : List Value) (x : DataW H × List MemPlace), shapeT P m t = some s → DataW.trod enc P w base spare held n t cs = some x → Fits s cs
  | n, 0, t, s, cs, x, h, _ => by cases h
  | n, m + 1, t, s, cs, x, h, hx => by
    simp only [shapeT] at h
    split at h
    · rename_i ht; cases h
      obtain ⟨b, rfl, _⟩ := DataW.trod_bool ht hx
      exact fits_one ⟨b, rfl⟩
    · rename_i k ht; cases h
      obtain ⟨v, rfl, _, hw⟩ := DataW.trod_int ht hx
      exact fits_one ⟨v, rfl, hw⟩
    · rename_i ht; cases h
      obtain ⟨v, rfl, _, hw⟩ := DataW.trod_string ht hx
      exact fits_one ⟨v, rfl, hw⟩
    · rename_i e ht; cases h
      rcases DataW.trod_slice ht hx with ⟨rfl, _⟩ | ⟨a, len, cap, _, _, _, _, rfl, _, _, hl, hc, _⟩
      · exact fits_one (.inl rfl)
      · exact fits_one (.inr ⟨a, len, cap, rfl, hl, hc⟩)
    · rename_i fs ht
      split at h
      case h_2 => cases h
      rename_i r hr
      split at h
      case isFalse => cases h
      rename_i hl
      cases h
      obtain ⟨xs, k, rfl, _, hcl, hxl, hall⟩ := DataW.trod_struct ht hx
      have := fits_fs (n := k) (sh := shapeT P m) (fun t s cs x h1 h2 => trod_fits k m t s cs x h1 h2) (cs := cs) fs.toList 0 s hr (fun f hf => by
        obtain ⟨i, hi⟩ := List.getElem?_of_mem hf
        have hi' : fs[i]? = some f := by simpa using hi
        have h3 := hall i f hi'
        have hlt : i < xs.length := by rw [hxl]; exact (Array.getElem?_eq_some_iff.1 hi').1
        rw [List.getElem?_eq_getElem hlt] at h3
        exact ⟨_, h3⟩)
      rw [List.drop_zero, hl, ← hcl, List.take_length] at this
      exact this
    · cases h

end

/-- A cell's value in the abstract machine's words; what stands behind a slice is not known. -/
def absV : Value → V
  | .bool b => .bool b
  | .int k n => .int k n
  | .string s => .str s.data.toList
  | .slice none _ _ => .slice none 0 false 0
  | .slice (some _) len _ => .slice (some (1, 0)) len false 1
  | _ => .nilFunc

def Shp.fitA : Shp → V → Prop
  | .ob, v => ∃ t, v = .bool t
  | .oi k, v => ∃ n, v = .int k n ∧ (Lit.int k n).wf = true
  | .os, v => ∃ s : List UInt8, v = .str s ∧ s.length ≤ maxLen
  | .osl, v => ∃ p len es, v = .slice p len false es ∧ len ≤ maxLen

theorem abs_fit {ρ : Ren} (hd : ρ 1 = .dead) {s : Shp} {v : Value} (h : s.fit v) : VRel ρ (absV v) v ∧ (absV v).isCell = true ∧ s.fitA (absV v) := by
  cases s with
  | ob => obtain ⟨t, rfl⟩ := h; exact ⟨.bool t, rfl, t, rfl⟩
  | oi k => obtain ⟨n, rfl, hw⟩ := h; exact ⟨.int k n, rfl, n, rfl, hw⟩
  | os =>
    obtain ⟨t, rfl, ht⟩ := h
    exact ⟨.str rfl, rfl, _, rfl, ht⟩
  | osl =>
    rcases h with rfl | ⟨a, len, cap, rfl, h1, h2⟩
    · exact ⟨.slice .nil, rfl, none, 0, 0, rfl, Nat.zero_le _⟩
    · exact ⟨.slice (.dead a hd h1 (fun h => by cases h)), rfl, _, len, _, rfl, by omega⟩

/-- A word of one or of many cells. -/
def absW : Value → V
  | .agg cs => .agg (cs.toList.map absV)
  | v => absV v

/-- The heap of a call's arguments: block 0 is the row of the one slice among them, block 1 is dead. -/
def argH (es : Nat) (cs : List V) : Heap := ⟨2, fun i => if i = 0 then (if cs = [] then .dead else .cells es true cs) else .dead⟩

/-- Nothing is read but what the arguments themselves hold. -/
def ren0 : Ren := fun i => if i = 1 then .dead else if i = 0 then .dead else .out

theorem rel_ren0 (w : World) : Rel ren0 (argH 0 []) w where
  blk h := by unfold ren0 at h; split at h <;> (try split at h) <;> cases h
  lt h := by unfold ren0 at h; split at h <;> (try split at h) <;> cases h
  inj h := by unfold ren0 at h; split at h <;> (try split at h) <;> cases h
  dom := by
    intro id h
    unfold ren0 at h
    show id < 2
    split at h
    · omega
    · split at h
      · omega
      · exact absurd rfl h
  dead := by
    intro id h
    unfold argH
    simp
  top := by
    intro id h
    unfold argH
    simp

end Go.Cn
