/- From the arguments of a row to the abstract machine's words. -/
import Derived.Test.YtlnpgjfdlefmoaaGreatDoorCnClosed
import Derived.Deep.Slices
import Derived.ChangeShapes
import Derived.ChangeArms
namespace Go.Cn
set_option linter.unusedVariables false
set_option linter.unusedSimpArgs false

/-- What a cell holds. -/
inductive Shp where
  | ob
  | oi (k : IntKind)
  | os
  | osl
  deriving DecidableEq, Inhabited

def Shp.fit : Shp → Value → Prop
  | .ob, v => ∃ t, v = .bool t
  | .oi k, v => ∃ n, v = .int k n ∧ (Lit.int k n).wf = true
  | .os, v => ∃ s : ByteArray, v = .string s ∧ s.size ≤ maxLen
  | .osl, v => v = .slice none 0 0 ∨ ∃ a len cap, v = .slice (some a) len cap ∧ len ≤ cap ∧ cap ≤ maxLen

def Fits (sh : List Shp) (cs : List Value) : Prop := cs.length = sh.length ∧ ∀ (i : Nat) (s : Shp) (v : Value), sh[i]? = some s → cs[i]? = some v → s.fit v

theorem Fits.append {a b : List Shp} {x y : List Value} (h : Fits a x) (h' : Fits b y) : Fits (a ++ b) (x ++ y) := by
  refine ⟨by simp [h.1, h'.1], fun i s v hs hv => ?_⟩
  by_cases hi : i < a.length
  · rw [List.getElem?_append_left hi] at hs
    rw [List.getElem?_append_left (by rw [h.1]; exact hi)] at hv
    exact h.2 i s v hs hv
  · rw [List.getElem?_append_right (by omega)] at hs
    rw [List.getElem?_append_right (by rw [h.1]; omega), h.1] at hv
    exact h'.2 _ s v hs hv

def shapeFs (P : Program) (sh : TypeId → Option (List Shp)) : Nat → List Field → Option (List Shp)
  | _, [] => some []
  | off, f :: fs => if f.offset = off then match sh f.type with
    | some s => if s.length = P.cellsOf f.type then match shapeFs P sh (off + s.length) fs with
      | some r => some (s ++ r)
      | none => none else none
    | none => none else none

def shapeT (P : Program) : Nat → TypeId → Option (List Shp)
  | 0, _ => none
  | n + 1, t => match P.underlying t with
    | some .bool => some [.ob]
    | some (.int k) => some [.oi k]
    | some .string => some [.os]
    | some (.slice _) => some [.osl]
    | some (.struct fs) => match shapeFs P (shapeT P n) 0 fs.toList with
      | some r => if r.length = P.cellsOf t then some r else none
      | none => none
    | _ => none

section
variable {H : Type} {enc : TypeId × Value → H} {P : Program} {w : World} {base : Nat} {spare : Nat → Bool} {held : Bool}

theorem fits_one {s : Shp} {v : Value} (h : s.fit v) : Fits [s] [v] := by
  refine ⟨rfl, fun i s' v' h1 h2 => ?_⟩
  cases i with
  | zero => simp at h1 h2; rw [← h1, ← h2]; exact h
  | succ i => simp at h1

theorem fits_fs {n : Nat} {sh : TypeId → Option (List Shp)} (ih : ∀ t s cs x, sh t = some s → DataW.trod enc P w base spare held n t cs = some x → Fits s cs) {cs : List Value} :
    ∀ (fs : List Field) (off : Nat) (r : List Shp), shapeFs P sh off fs = some r → (∀ f ∈ fs, ∃ y, DataW.trod enc P w base spare held n f.type ((cs.drop f.offset).take (P.cellsOf f.type)) = some y) → Fits r ((cs.drop off).take r.length)
  | [], off, r, h, _ => by cases h; exact ⟨by simp, fun i s v h => by simp at h⟩
  | f :: fs, off, r, h, hf => by
    simp only [shapeFs] at h
    split at h
    case isFalse => cases h
    rename_i ho
    split at h
    case h_2 => cases h
    rename_i s hs
    split at h
    case isFalse => cases h
    rename_i hl
    split at h
    case h_2 => cases h
    rename_i r' hr
    cases h
    obtain ⟨y, hy⟩ := hf f (by simp)
    have h1 := ih _ _ _ _ hs hy
    have h2 := fits_fs ih fs _ _ hr (fun g hg => hf g (by simp [hg]))
    rw [ho, ← hl] at h1
    have e : (cs.drop off).take (s ++ r').length = (cs.drop off).take s.length ++ (cs.drop (off + s.length)).take r'.length := by
      rw [List.length_append, List.take_add, List.drop_drop]
    rw [e]
    exact h1.append h2

theorem trod_fits : ∀ (n m : Nat) (t : TypeId) (s : List Shp) (cs : List Value) (x : DataW H × List MemPlace), shapeT P m t = some s → DataW.trod enc P w base spare held n t cs = some x → Fits s cs
  | n, 0, t, s, cs, x, h, _ => by cases h
  | n, m + 1, t, s, cs, x, h, hx => by
    simp only [shapeT] at h
    split at h
    · rename_i ht; cases h
      obtain ⟨b, rfl, _⟩ := DataW.trod_bool ht hx
      exact fits_one ⟨b, rfl⟩
    · rename_i k ht; cases h
      obtain ⟨v, rfl, _, hw⟩ := DataW.trod_int ht hx
      exact fits_one ⟨v, rfl, hw⟩
    · rename_i ht; cases h
      obtain ⟨v, rfl, _, hw⟩ := DataW.trod_string ht hx
      exact fits_one ⟨v, rfl, hw⟩
    · rename_i e ht; cases h
      rcases DataW.trod_slice ht hx with ⟨rfl, _⟩ | ⟨a, len, cap, _, _, _, _, rfl, _, _, hl, hc, _⟩
      · exact fits_one (.inl rfl)
      · exact fits_one (.inr ⟨a, len, cap, rfl, hl, hc⟩)
    · rename_i fs ht
      split at h
      case h_2 => cases h
      rename_i r hr
      split at h
      case isFalse => cases h
      rename_i hl
      cases h
      obtain ⟨xs, k, rfl, _, hcl, hxl, hall⟩ := DataW.trod_struct ht hx
      have := fits_fs (n := k) (sh := shapeT P m) (fun t s cs x h1 h2 => trod_fits k m t s cs x h1 h2) (cs := cs) fs.toList 0 s hr (fun f hf => by
        obtain ⟨i, hi⟩ := List.getElem?_of_mem hf
        have hi' : fs[i]? = some f := by simpa using hi
        have h3 := hall i f hi'
        have hlt : i < xs.length := by rw [hxl]; exact (Array.getElem?_eq_some_iff.1 hi').1
        rw [List.getElem?_eq_getElem hlt] at h3
        exact ⟨_, h3⟩)
      rw [List.drop_zero, hl, ← hcl, List.take_length] at this
      exact this
    · cases h

end

/-- A cell's value in the abstract machine's words; what stands behind a slice is not known. -/
def absV : Value → V
  | .bool b => .bool b
  | .int k n => .int k n
  | .string s => .str s.data.toList
  | .slice none _ _ => .slice none 0 false 0
  | .slice (some _) len _ => .slice (some (1, 0)) len false 1
  | _ => .nilFunc

def Shp.fitA : Shp → V → Prop
  | .ob, v => ∃ t, v = .bool t
  | .oi k, v => ∃ n, v = .int k n ∧ (Lit.int k n).wf = true
  | .os, v => ∃ s : List UInt8, v = .str s ∧ s.length ≤ maxLen
  | .osl, v => ∃ p len es, v = .slice p len false es ∧ len ≤ maxLen

theorem abs_fit {ρ : Ren} (hd : ρ 1 = .dead) {s : Shp} {v : Value} (h : s.fit v) : VRel ρ (absV v) v ∧ (absV v).isCell = true ∧ s.fitA (absV v) := by
  cases s with
  | ob => obtain ⟨t, rfl⟩ := h; exact ⟨.bool t, rfl, t, rfl⟩
  | oi k => obtain ⟨n, rfl, hw⟩ := h; exact ⟨.int k n, rfl, n, rfl, hw⟩
  | os =>
    obtain ⟨t, rfl, ht⟩ := h
    exact ⟨.str rfl, rfl, _, rfl, ht⟩
  | osl =>
    rcases h with rfl | ⟨a, len, cap, rfl, h1, h2⟩
    · exact ⟨.slice .nil, rfl, none, 0, 0, rfl, Nat.zero_le _⟩
    · exact ⟨.slice (.dead a hd h1 (fun h => by cases h)), rfl, _, len, _, rfl, by omega⟩

/-- A word of one or of many cells. -/
def absW : Value → V
  | .agg cs => .agg (cs.toList.map absV)
  | v => absV v

/-- The heap of a call's arguments: block 0 is the row of the one slice among them, block 1 is dead. -/
def argH (es : Nat) (cs : List V) : Heap := ⟨2, fun i => if i = 0 then (if cs = [] then .dead else .cells es true cs) else .dead⟩

/-- Nothing is read but what the arguments themselves hold. -/
def ren0 : Ren := fun i => if i = 1 then .dead else if i = 0 then .dead else .out

theorem rel_ren0 (w : World) : Rel ren0 (argH 0 []) w where
  blk h := by unfold ren0 at h; split at h <;> (try split at h) <;> cases h
  lt h := by unfold ren0 at h; split at h <;> (try split at h) <;> cases h
  inj h := by unfold ren0 at h; split at h <;> (try split at h) <;> cases h
  dom := by
    intro id h
    unfold ren0 at h
    show id < 2
    split at h
    · omega
    · split at h
      · omega
      · exact absurd rfl h
  dead := by
    intro id h
    unfold argH
    simp
  top := by
    intro id h
    unfold argH
    simp

end Go.Cn

/- A slice of plain rows among the arguments. -/
namespace Go.Cn
open Go.ChangeShapes Go.WideShapes Go.Deep
set_option linter.unusedVariables false
set_option linter.unusedSimpArgs false

def FitsA (sh : List Shp) (r : List V) : Prop := r.length = sh.length ∧ ∀ (i : Nat) (s : Shp) (v : V), sh[i]? = some s → r[i]? = some v → s.fitA v

theorem flatten_get {α : Type} {k : Nat} (hk : 0 < k) : ∀ (rows : List (List α)) (j : Nat), (∀ r ∈ rows, r.length = k) → rows.flatten[j]? = rows[j / k]?.bind fun r => r[j % k]?
  | [], j, _ => by simp
  | r :: rows, j, h => by
    have hr := h r (by simp)
    rw [List.flatten_cons]
    by_cases hj : j < k
    · rw [List.getElem?_append_left (by omega), Nat.div_eq_of_lt hj, Nat.mod_eq_of_lt hj]
      rfl
    · rw [List.getElem?_append_right (by omega), flatten_get hk rows _ (fun r hr => h r (by simp [hr])), hr]
      have h1 : j / k = (j - k) / k + 1 := by
        rw [← Nat.add_div_right _ hk]; congr 1; omega
      have h2 : j % k = (j - k) % k := by
        conv => lhs; rw [show j = (j - k) + k by omega]
        rw [Nat.add_mod_right]
      rw [h1, h2]
      rfl

theorem flatten_len {α : Type} {k : Nat} : ∀ (rows : List (List α)), (∀ r ∈ rows, r.length = k) → rows.flatten.length = rows.length * k
  | [], _ => by simp
  | r :: rows, h => by
    rw [List.flatten_cons, List.length_append, h r (by simp), flatten_len rows (fun r hr => h r (by simp [hr])), List.length_cons, Nat.succ_mul, Nat.add_comm]

section
variable {H : Type} {enc : TypeId × Value → H} {P : Program} {w : World} {held : Bool}

/-- Places of arguments are read, not written. -/
def ReadOnly (ρ : Ren) : Prop := ∀ id ro b o n es, ρ id = .live ro b o n es → ro = true

def renS (n b o c es : Nat) : Ren := fun i => if i = 1 then .dead else if i = 0 then (if n = 0 then .dead else .live true b o c es) else .out

theorem slice_arg {t e : TypeId} {m b0 : Nat} {r : Reach} {v : Value} {d : DataW H} {ps : List MemPlace} {sh : List Shp} (ht : P.underlying t = some (.slice e)) (hsh : shapeT P m e = some sh) (hpos : 0 < sh.length) (hce : P.cellsOf e = sh.length)
    (hval : Value.okWide P w r b0 t v) (hd : DataW.Trod enc P w 0 (fun _ => true) held t v d ps) :
    ∃ (ρ : Ren) (p : Option (Nat × Nat)) (rows : List (List V)), (p = none ∧ rows = [] ∨ p = some (0, 0)) ∧ (∀ r ∈ rows, FitsA sh r) ∧ rows.length ≤ maxLen ∧
      Rel ρ (argH sh.length rows.flatten) w ∧ ReadOnly ρ ∧ VRel ρ (.slice p rows.length false sh.length) v := by
  obtain ⟨a0, len0, cap0, rfl⟩ := okWide_slice ht hval
  obtain ⟨fuel, hf⟩ := hd
  rcases open_slice ht hf with ⟨h, _⟩ | ⟨a, len, cap, mm, n, D, Pl, h, hb, hl, hm, rfl, _, hel⟩
  · simp [Value.cells] at h
    obtain ⟨rfl, rfl, rfl⟩ := h
    refine ⟨ren0, none, [], .inl ⟨rfl, rfl⟩, by simp, Nat.zero_le _, ?_, ?_, .slice .nil⟩
    · have := rel_ren0 w
      unfold argH at this ⊢
      exact this
    · intro id ro b o n es h
      unfold ren0 at h; split at h <;> (try split at h) <;> cases h
  · simp [Value.cells] at h
    obtain ⟨rfl, rfl, rfl⟩ := h
    skip
    have key : ∀ i, i < cap0 → ∃ cs', w.cells? 0 (a.add (i * sh.length)) sh.length = some cs' ∧ Fits sh cs' := by
      intro i hi
      obtain ⟨cs', h1, h2⟩ := hel i hi
      rw [hce] at h1
      exact ⟨cs', h1, trod_fits _ _ _ _ _ _ hsh h2⟩
    by_cases h0 : len0 = 0
    · subst h0
      refine ⟨ren0, some (0, 0), [], .inr rfl, by simp, Nat.zero_le _, ?_, ?_, .slice (.dead a rfl hl (fun h => by cases h))⟩
      · have := rel_ren0 w
        unfold argH at this ⊢
        exact this
      · intro id ro b o n es h
        unfold ren0 at h; split at h <;> (try split at h) <;> cases h
    · -- the rows
      let rc : Nat → List Value := fun i => (w.cells? 0 (a.add (i * sh.length)) sh.length).getD []
      have hrc : ∀ i, i < cap0 → w.cells? 0 (a.add (i * sh.length)) sh.length = some (rc i) ∧ Fits sh (rc i) := by
        intro i hi
        obtain ⟨cs', h1, h2⟩ := key i hi
        have : rc i = cs' := by show (w.cells? 0 (a.add (i * sh.length)) sh.length).getD [] = cs'; rw [h1]; rfl
        rw [this]
        exact ⟨h1, h2⟩
      have hspot : a.spot = none := by
        obtain ⟨_, h2, h3⟩ := World.cells?_some (hrc 0 (by omega)).1
        have h4 := h3 0 hpos
        rw [List.getElem?_eq_getElem (by omega)] at h4
        simpa [Addr.add] using World.cell?_spot h4
      obtain ⟨b, off, spot⟩ := a
      have hspot : spot = none := hspot
      subst hspot
      have hcell : ∀ i q, i < cap0 → q < sh.length → w.cell? ⟨b, off + (i * sh.length + q), none⟩ = (rc i)[q]? ∧ ∃ x, (rc i)[q]? = some x := by
        intro i q hi hq
        obtain ⟨_, h2, h3⟩ := World.cells?_some (hrc i hi).1
        have h4 := h3 q hq
        rw [add_add, add_plain] at h4
        exact ⟨h4, _, List.getElem?_eq_getElem (by omega)⟩
      -- the concrete block
      obtain ⟨c, T, lo, hi', hblk⟩ : ∃ c T lo hi', w.heap[b]? = some (.cells c T (lo, hi')) := by
        obtain ⟨h1, x, h2⟩ := hcell 0 0 (by omega) hpos
        rw [h2] at h1
        unfold World.cell? at h1
        cases hb : w.heap[b]? with
        | none => simp [hb] at h1
        | some o =>
          cases o with
          | cells c T fr => exact ⟨c, T, fr.1, fr.2, rfl⟩
          | _ => simp [hb] at h1
      have hc : ∀ i q, i < cap0 → q < sh.length → c[off + (i * sh.length + q)]? = (rc i)[q]? := by
        intro i q hi hq
        have := (hcell i q hi hq).1
        simpa [World.cell?, hblk] using this
      have hroom : off + cap0 * sh.length ≤ c.size := by
        have h1 := hc (cap0 - 1) (sh.length - 1) (by omega) (by omega)
        obtain ⟨_, x, h2⟩ := hcell (cap0 - 1) (sh.length - 1) (by omega) (by omega)
        rw [h2] at h1
        have h3 := (Array.getElem?_eq_some_iff.1 h1).1
        have h4 : (cap0 - 1) * sh.length + sh.length = cap0 * sh.length := by
          rw [← Nat.succ_mul]; congr 1; omega
        omega
      let rows : List (List V) := (List.range len0).map fun i => (rc i).map absV
      have hrl : rows.length = len0 := by simp [rows]
      have hrk : ∀ r ∈ rows, r.length = sh.length := by
        intro r hr
        obtain ⟨i, hi, rfl⟩ := List.mem_map.1 hr
        rw [List.length_map]
        exact (hrc i (by have := List.mem_range.1 hi; omega)).2.1
      have hbig : b < w.heap.size := (Array.getElem?_eq_some_iff.1 hblk).1
      let ρ := renS len0 b off c.size sh.length
      have hd1 : ρ 1 = .dead := rfl
      have h00 : ρ 0 = .live true b off c.size sh.length := by
        show (if (0 : Nat) = 1 then St.dead else if (0 : Nat) = 0 then (if len0 = 0 then St.dead else .live true b off c.size sh.length) else .out) = _
        simp [h0]
      have hlive : ∀ {id ro b' o n es}, ρ id = .live ro b' o n es → id = 0 ∧ St.live ro b' o n es = .live true b off c.size sh.length := by
        intro id ro b' o n es h
        by_cases h1 : id = 0
        · subst h1; exact ⟨rfl, by rw [← h, h00]⟩
        · exfalso
          have h : (if id = 1 then St.dead else if id = 0 then (if len0 = 0 then St.dead else .live true b off c.size sh.length) else .out) = .live ro b' o n es := h
          rw [if_neg h1] at h
          split at h <;> cases h
      have hne : rows.flatten ≠ [] := by
        intro h
        have := flatten_len rows hrk
        rw [h, hrl] at this
        have h2 : 0 < len0 * sh.length := Nat.mul_pos (by omega) hpos
        simp at this
        omega
      have hH : (argH sh.length rows.flatten).blk 0 = .cells sh.length true rows.flatten := by
        unfold argH; simp [hne]
      refine ⟨ρ, some (0, 0), rows, .inr rfl, ?_, by omega, ⟨?_, ?_, ?_, ?_, ?_, ?_⟩, ?_, ?_⟩
      · intro r hr
        refine ⟨hrk r hr, fun i s v hs hv => ?_⟩
        obtain ⟨k, hk, rfl⟩ := List.mem_map.1 hr
        have hf := (hrc k (by have := List.mem_range.1 hk; omega)).2
        rw [List.getElem?_map] at hv
        cases hx : (rc k)[i]? with
        | none => rw [hx] at hv; cases hv
        | some x =>
          rw [hx] at hv
          cases hv
          exact (abs_fit hd1 (hf.2 i s x hs hx)).2.2
      · intro id ro b' o n es h
        obtain ⟨hid, he⟩ := hlive h
        subst hid
        cases he
        rw [hH]
        refine ⟨rfl, rfl, ?_, c, ⟨T, lo, hi', hblk, rfl, fun h => (by cases h), fun h => (by omega)⟩, ?_, ?_⟩
        · intro x hx
          obtain ⟨r, hr, hxr⟩ := List.mem_flatten.1 hx
          obtain ⟨k, hk, rfl⟩ := List.mem_map.1 hr
          obtain ⟨y, hy, rfl⟩ := List.mem_map.1 hxr
          have hf := (hrc k (by have := List.mem_range.1 hk; omega)).2
          obtain ⟨i, hi⟩ := List.getElem?_of_mem hy
          have hil : i < sh.length := by rw [← hf.1]; exact (List.getElem?_eq_some_iff.1 hi).1
          exact (abs_fit hd1 (hf.2 i _ y (List.getElem?_eq_getElem hil) hi)).2.1
        · rw [flatten_len rows hrk, hrl]
          have := Nat.mul_le_mul_right sh.length hl
          omega
        · intro i x hx
          rw [flatten_get hpos rows i hrk] at hx
          have hq : i % sh.length < sh.length := Nat.mod_lt _ hpos
          cases hr : rows[i / sh.length]? with
          | none => rw [hr] at hx; cases hx
          | some r =>
            rw [hr] at hx
            have hx : r[i % sh.length]? = some x := hx
            have hk : i / sh.length < len0 := by rw [← hrl]; exact (List.getElem?_eq_some_iff.1 hr).1
            have hr' : r = (rc (i / sh.length)).map absV := by
              simp only [rows, List.getElem?_map] at hr
              rw [List.getElem?_range hk] at hr
              exact (Option.some.inj hr).symm
            subst hr'
            rw [List.getElem?_map] at hx
            cases hy : (rc (i / sh.length))[i % sh.length]? with
            | none => rw [hy] at hx; cases hx
            | some y =>
              rw [hy] at hx
              cases hx
              have hf := (hrc (i / sh.length) (by omega)).2
              refine ⟨y, ?_, (abs_fit hd1 (hf.2 _ _ y (List.getElem?_eq_getElem hq) hy)).1⟩
              have h5 := hc (i / sh.length) (i % sh.length) (by omega) hq
              have h6 : i / sh.length * sh.length + i % sh.length = i := Nat.div_add_mod' i sh.length
              rw [h6, hy] at h5
              exact h5
      · intro id ro b' o n es h
        obtain ⟨_, he⟩ := hlive h
        cases he
        exact hbig
      · intro i j ro ro' b' o o' n n' es es' h h' hh
        obtain ⟨rfl, h1⟩ := hlive h
        obtain ⟨rfl, h2⟩ := hlive h'
        rfl
      · intro id h
        show id < 2
        have h : (if id = 1 then St.dead else if id = 0 then (if len0 = 0 then St.dead else .live true b off c.size sh.length) else .out) ≠ .out := h
        split at h
        · omega
        · split at h
          · omega
          · exact absurd rfl h
      · intro id h
        by_cases h1 : id = 0
        · subst h1; rw [h00] at h; cases h
        · unfold argH; simp [h1]
      · intro id h
        have h2 : 2 ≤ id := h
        have : ¬ id = 0 := by omega
        unfold argH; simp [this]
      · intro id ro b' o n es h
        obtain ⟨_, he⟩ := hlive h
        cases he
        rfl
      · rw [hrl]
        exact .slice (.live h00 hl (fun h => by cases h) (fun _ => rfl) hroom)

end

theorem FitsA.cons {s : Shp} {sh : List Shp} {r : List V} (h : FitsA (s :: sh) r) : ∃ v r', r = v :: r' ∧ s.fitA v ∧ FitsA sh r' := by
  obtain ⟨h1, h2⟩ := h
  match r, h1 with
  | v :: r', h1 => exact ⟨v, r', rfl, h2 0 s v rfl rfl, by simpa using h1, fun i s' v' a b => h2 (i + 1) s' v' (by simpa using a) (by simpa using b)⟩

theorem FitsA.nil {r : List V} (h : FitsA [] r) : r = [] := List.eq_nil_of_length_eq_zero h.1

/-- Each cell's word stands for the cell. -/
theorem abs_rels {ρ : Ren} (hd : ρ 1 = .dead) {sh : List Shp} {cs : Array Value} (h : Fits sh cs.toList) : VRel ρ (.agg (cs.toList.map absV)) (.agg cs) ∧ FitsA sh (cs.toList.map absV) := by
  have key : ∀ (i : Nat) (v : Value), cs[i]? = some v → VRel ρ (absV v) v ∧ (absV v).isCell = true ∧ ∃ s, sh[i]? = some s ∧ s.fitA (absV v) := by
    intro i v hi
    have hlt : i < sh.length := by
      rw [← h.1]
      simpa using (Array.getElem?_eq_some_iff.1 hi).1
    obtain ⟨a, b, c⟩ := abs_fit hd (h.2 i _ v (List.getElem?_eq_getElem hlt) (by simpa using hi))
    exact ⟨a, b, _, List.getElem?_eq_getElem hlt, c⟩
  refine ⟨.agg ?_ (by simp) ?_, by simp [h.1], ?_⟩
  · intro x hx
    obtain ⟨y, hy, rfl⟩ := List.mem_map.1 hx
    obtain ⟨i, hi⟩ := List.getElem?_of_mem hy
    exact (key i y (by simpa using hi)).2.1
  · intro i v v' h1 h2
    rw [List.getElem?_map] at h1
    have h3 : cs.toList[i]? = some v' := by simpa using h2
    rw [h3] at h1
    cases h1
    exact (key i v' h2).1
  · intro i s v h1 h2
    rw [List.getElem?_map] at h2
    cases hy : cs.toList[i]? with
    | none => rw [hy] at h2; cases h2
    | some y =>
      rw [hy] at h2
      cases h2
      obtain ⟨_, _, s', h3, h4⟩ := key i y (by simpa using hy)
      rw [h1] at h3
      cases h3
      exact h4

/-- A struct of plain cells among the arguments. -/
theorem struct_arg {H : Type} {enc : TypeId × Value → H} {P : Program} {w : World} {held : Bool} {t : TypeId} {m b0 : Nat} {r : Reach} {v : Value} {d : DataW H} {ps : List MemPlace} {fs : Array Field} {sh : List Shp} (ht : P.underlying t = some (.struct fs)) (hsh : shapeT P m t = some sh)
    (hval : Value.okWide P w r b0 t v) (hd : DataW.Trod enc P w 0 (fun _ => true) held t v d ps) {ρ : Ren} (h1 : ρ 1 = .dead) : ∃ r, FitsA sh r ∧ VRel ρ (.agg r) v := by
  unfold Value.okWide at hval
  rw [ht] at hval
  obtain ⟨cs, rfl, _, _⟩ := hval
  obtain ⟨fuel, hf⟩ := hd
  have hfit := trod_fits _ _ _ _ _ _ hsh hf
  have hfit : Fits sh cs.toList := by simpa [Value.cells] using hfit
  obtain ⟨a, b⟩ := abs_rels h1 hfit
  exact ⟨_, b, a⟩

end Go.Cn
