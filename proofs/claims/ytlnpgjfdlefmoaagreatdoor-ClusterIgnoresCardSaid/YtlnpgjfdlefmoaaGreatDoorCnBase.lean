/- The abstract machine's values and heap, and how they stand for the model's values and worlds: a renaming of abstract blocks to concrete ones. Nothing of any program stands here. -/
import Derived.Test.YtlnpgjfdlefmoaaGreatDoorCnOp
import Derived.Calls
import Derived.Orders
import Derived.Deep.LoopGhost
namespace Go.Cn
set_option linter.unusedVariables false
set_option linter.unusedSimpArgs false

/-- Where an abstract block stands: not yet; nowhere any more; from a cell of a concrete block on, which has so many cells. -/
inductive St where
  | out
  | dead
  | live (ro : Bool) (b o n es : Nat)

abbrev Ren := Nat → St

inductive PRel (ρ : Ren) : Option (Nat × Nat) → Option Addr → Prop where
  | nil : PRel ρ none none
  | dead {id off : Nat} (a : Addr) (h : ρ id = .dead) : PRel ρ (some (id, off)) (some a)
  | live {id off : Nat} {ro : Bool} {b o n es : Nat} (h : ρ id = .live ro b o n es) : PRel ρ (some (id, off)) (some ⟨b, o + off, none⟩)

inductive SRel (ρ : Ren) : Option (Nat × Nat) → Nat → Bool → Nat → Option Addr → Nat → Prop where
  | nil {full : Bool} {es : Nat} : SRel ρ none 0 full es none 0
  | dead {id off len cap es : Nat} {full : Bool} (a : Addr) (h : ρ id = .dead) (hlen : len ≤ cap) (hfull : full = true → cap = len) : SRel ρ (some (id, off)) len full es (some a) cap
  | live {id off len cap : Nat} {full : Bool} {ro : Bool} {b o n es off' : Nat} (h : ρ id = .live ro b o n es) (hlen : len ≤ cap) (hfull : full = true → cap = len)
      (hoff : len ≠ 0 → off' = o + off) (hroom : off' + cap * es ≤ n) : SRel ρ (some (id, off)) len full es (some ⟨b, off', none⟩) cap

inductive VRel (ρ : Ren) : V → Value → Prop where
  | bool (b : Bool) : VRel ρ (.bool b) (.bool b)
  | int (k : IntKind) (n : Int) : VRel ρ (.int k n) (.int k n)
  | str {s : List UInt8} {t : ByteArray} (h : t.data.toList = s) : VRel ρ (.str s) (.string t)
  | ptr {p : Option (Nat × Nat)} {a : Option Addr} (h : PRel ρ p a) : VRel ρ (.ptr p) (.pointer a)
  | slice {p : Option (Nat × Nat)} {len cap es : Nat} {full : Bool} {a : Option Addr} (h : SRel ρ p len full es a cap) : VRel ρ (.slice p len full es) (.slice a len cap)
  | mapNil : VRel ρ (.map none) (.map none)
  | map {id : Nat} {ro : Bool} {b n es : Nat} (h : ρ id = .live ro b 0 n es) : VRel ρ (.map (some id)) (.map (some b))
  | mapDead {id : Nat} (b : Nat) (h : ρ id = .dead) : VRel ρ (.map (some id)) (.map (some b))
  | func {f : FuncId} {caps : List V} {caps' : Array Value} (hn : caps.length = caps'.size) (h : ∀ (i : Nat) (v : V) (v' : Value), caps[i]? = some v → caps'[i]? = some v' → VRel ρ v v') : VRel ρ (.func f caps) (.func (.func f) #[] caps')
  | nilFunc : VRel ρ .nilFunc .nilFunc
  | iface {t : TypeId} {v : V} {v' : Value} (h : VRel ρ v v') : VRel ρ (.iface t v) (.iface t v')
  | nilIface : VRel ρ .nilIface .nilIface
  | agg {cs : List V} {cs' : Array Value} (hc : ∀ v ∈ cs, v.isCell = true) (hn : cs.length = cs'.size) (h : ∀ (i : Nat) (v : V) (v' : Value), cs[i]? = some v → cs'[i]? = some v' → VRel ρ v v') : VRel ρ (.agg cs) (.agg cs')
  | tuple {cs : List V} {cs' : Array Value} (hn : cs.length = cs'.size) (h : ∀ (i : Nat) (v : V) (v' : Value), cs[i]? = some v → cs'[i]? = some v' → VRel ρ v v') : VRel ρ (.tuple cs) (.tuple cs')

/-- Lists of values stand for arrays of values, one by one. -/
def VRels (ρ : Ren) (cs : List V) (cs' : Array Value) : Prop := cs.length = cs'.size ∧ ∀ (i : Nat) (v : V) (v' : Value), cs[i]? = some v → cs'[i]? = some v' → VRel ρ v v'

theorem VRels.nil {ρ : Ren} : VRels ρ [] #[] := ⟨rfl, fun i v v' h => by simp at h⟩

theorem VRel.ofAgg {ρ : Ren} {cs : List V} {cs' : Array Value} (h : VRels ρ cs cs') (hc : ∀ v ∈ cs, v.isCell = true) : VRel ρ (.agg cs) (.agg cs') := .agg hc h.1 h.2
theorem VRel.ofTuple {ρ : Ren} {cs : List V} {cs' : Array Value} (h : VRels ρ cs cs') : VRel ρ (.tuple cs) (.tuple cs') := .tuple h.1 h.2
theorem VRel.undef {ρ : Ren} : VRel ρ V.undef Go.undef := .ofTuple .nil

theorem VRels.get {ρ : Ren} {cs : List V} {cs' : Array Value} (h : VRels ρ cs cs') {i : Nat} {v : V} (hv : cs[i]? = some v) : ∃ v', cs'[i]? = some v' ∧ VRel ρ v v' := by
  have hi : i < cs.length := by
    rcases Nat.lt_or_ge i cs.length with h | h
    · exact h
    · simp [List.getElem?_eq_none h] at hv
  have hi' : i < cs'.size := h.1 ▸ hi
  exact ⟨cs'[i], by simp [hi'], h.2 i v _ hv (by simp [hi'])⟩

theorem VRels.get' {ρ : Ren} {cs : List V} {cs' : Array Value} (h : VRels ρ cs cs') {i : Nat} {v' : Value} (hv : cs'[i]? = some v') : ∃ v, cs[i]? = some v ∧ VRel ρ v v' := by
  have hi : i < cs'.size := by
    rcases Nat.lt_or_ge i cs'.size with h | h
    · exact h
    · simp [Array.getElem?_eq_none h] at hv
  have hi' : i < cs.length := h.1 ▸ hi
  exact ⟨cs[i], by simp [hi'], h.2 i _ v' (by simp [hi']) hv⟩

theorem VRels.push {ρ : Ren} {cs : List V} {cs' : Array Value} {v : V} {v' : Value} (h : VRels ρ cs cs') (hv : VRel ρ v v') : VRels ρ (cs ++ [v]) (cs'.push v') := by
  refine ⟨by simp [h.1], fun i x x' hx hx' => ?_⟩
  rcases Nat.lt_trichotomy i cs.length with hi | hi | hi
  · have hi' : i < cs'.size := h.1 ▸ hi
    rw [List.getElem?_append_left hi] at hx
    rw [Array.getElem?_push_lt hi'] at hx'
    exact h.2 i x x' hx (by simpa [hi'] using hx')
  · subst hi
    rw [List.getElem?_append_right (Nat.le_refl _)] at hx
    have : (cs'.push v')[cs.length]? = some v' := by rw [h.1]; simp
    rw [this] at hx'
    simp at hx hx'
    subst hx; subst hx'; exact hv
  · have : (cs ++ [v])[i]? = none := by simp; omega
    rw [this] at hx; cases hx

/-! ### The world -/

/-- The row of cells of a concrete block that a live abstract one stands in. -/
def CellsAt (ro : Bool) (w : World) (b n : Nat) (es : Nat) (c : Array Value) : Prop :=
  ∃ T lo hi, w.heap[b]? = some (.cells c T (lo, hi)) ∧ c.size = n ∧ (ro = false → n ≤ lo ∨ hi ≤ lo) ∧ (es = 0 → lo = 0 ∧ hi = 0)

def EntriesRel (ρ : Ren) (es : List (V × V × Nat)) (es' : Array MapEntry) : Prop :=
  es.length = es'.size ∧ ∀ (i : Nat) (k v : V) (s : Nat), es[i]? = some (k, v, s) → ∃ e, es'[i]? = some e ∧ VRel ρ k e.key ∧ VRel ρ v e.val ∧ e.born = s

/-- What holds of one live abstract block. -/
def BlkRel (ρ : Ren) (w : World) (b o n es : Nat) (ro : Bool) : Blk → Prop
  | .cells es' ro' cs => es' = es ∧ ro' = ro ∧ (∀ v ∈ cs, v.isCell = true) ∧ ∃ c, CellsAt ro w b n es c ∧ o + cs.length ≤ n ∧ ∀ (i : Nat) (v : V), cs[i]? = some v → ∃ v', c[o + i]? = some v' ∧ VRel ρ v v'
  | .map l clock => o = 0 ∧ ro = false ∧ ∃ l', w.heap[b]? = some (.map l' clock) ∧ EntriesRel ρ l l'
  | .iter m since seen stepped => o = 0 ∧ ro = false ∧ ∃ bm, w.heap[b]? = some (.mapIter (some bm) since seen.toArray stepped) ∧ (ρ m = .dead ∨ ∃ ro' nm em, ρ m = .live ro' bm 0 nm em)
  | .dead => True

structure Rel (ρ : Ren) (H : Heap) (w : World) : Prop where
  blk : ∀ {id ro b o n es}, ρ id = .live ro b o n es → BlkRel ρ w b o n es ro (H.blk id)
  lt : ∀ {id ro b o n es}, ρ id = .live ro b o n es → b < w.heap.size
  inj : ∀ {i j ro ro' b o o' n n' es es'}, ρ i = .live ro b o n es → ρ j = .live ro' b o' n' es' → (ro = false ∨ ro' = false) → i = j
  dom : ∀ {id}, ρ id ≠ .out → id < H.next
  dead : ∀ {id}, ρ id = .dead → H.blk id = .dead
  top : ∀ id, H.next ≤ id → H.blk id = .dead

/-- From one stage to a later one: places stay or die; what is unknown stays unknown and as it was; concrete blocks that no writable abstract one stands in stay as they were. -/
structure Ext (ρ : Ren) (H : Heap) (w : World) (ρ' : Ren) (H' : Heap) (w' : World) : Prop where
  stay : ∀ id, ρ id ≠ .out → ρ' id = ρ id ∨ ρ' id = .dead
  out : ∀ id, id < H.next → ρ id = .out → ρ' id = .out ∧ H'.blk id = H.blk id
  next : H.next ≤ H'.next
  size : w.heap.size ≤ w'.heap.size
  frame : ∀ b, b < w.heap.size → (∀ id o n es, ρ id ≠ .live false b o n es) → w'.heap[b]? = w.heap[b]?
  old : ∀ id o n es b, ρ' id = .live false b o n es → b < w.heap.size → ∃ i o' n' es', ρ i = .live false b o' n' es'
  os : w'.os = w.os
  output : w'.output = w.output

theorem Ext.refl (ρ : Ren) (H : Heap) (w : World) : Ext ρ H w ρ H w where
  stay _ _ := .inl rfl
  out _ _ h := ⟨h, rfl⟩
  next := Nat.le_refl _
  size := Nat.le_refl _
  frame _ _ _ := rfl
  old id o n es b h _ := ⟨id, o, n, es, h⟩
  os := rfl
  output := rfl

theorem Ext.trans {ρ ρ' ρ'' : Ren} {H H' H'' : Heap} {w w' w'' : World} (h : Ext ρ H w ρ' H' w') (h' : Ext ρ' H' w' ρ'' H'' w'') : Ext ρ H w ρ'' H'' w'' where
  stay id hi := by
    rcases h.stay id hi with e | e
    · rw [← e] at hi
      rcases h'.stay id hi with e' | e'
      · exact .inl (e'.trans e)
      · exact .inr e'
    · rcases h'.stay id (by rw [e]; simp) with e' | e'
      · exact .inr (e'.trans e)
      · exact .inr e'
  out id hi ho := by
    obtain ⟨a, b⟩ := h.out id hi ho
    obtain ⟨a', b'⟩ := h'.out id (Nat.lt_of_lt_of_le hi h.next) a
    exact ⟨a', b'.trans b⟩
  next := Nat.le_trans h.next h'.next
  size := Nat.le_trans h.size h'.size
  frame b hb hn := by
    rw [h'.frame b (Nat.lt_of_lt_of_le hb h.size) ?_, h.frame b hb hn]
    intro id o n es e
    obtain ⟨i, o', n', es', e'⟩ := h.old id o n es b e hb
    exact hn i o' n' es' e'
  old id o n es b e hb := by
    obtain ⟨i, o', n', es', e'⟩ := h'.old id o n es b e (Nat.lt_of_lt_of_le hb h.size)
    exact h.old i o' n' es' b e' hb
  os := h'.os.trans h.os
  output := h'.output.trans h.output

/-- Places that only stay or die keep what values stand for. -/
def Keeps (ρ ρ' : Ren) : Prop := ∀ id, ρ id ≠ .out → ρ' id = ρ id ∨ ρ' id = .dead

theorem Ext.keeps {ρ ρ' : Ren} {H H' : Heap} {w w' : World} (h : Ext ρ H w ρ' H' w') : Keeps ρ ρ' := h.stay

theorem PRel.mono {ρ ρ' : Ren} (h : Keeps ρ ρ') {p : Option (Nat × Nat)} {a : Option Addr} (hp : PRel ρ p a) : PRel ρ' p a := by
  cases hp with
  | nil => exact .nil
  | dead a e => rcases h _ (by rw [e]; simp) with e' | e'
                · exact .dead a (e'.trans e)
                · exact .dead a e'
  | live e => rcases h _ (by rw [e]; simp) with e' | e'
              · exact .live (e'.trans e)
              · exact .dead _ e'

theorem SRel.mono {ρ ρ' : Ren} (h : Keeps ρ ρ') {p : Option (Nat × Nat)} {a : Option Addr} {len cap es : Nat} {full : Bool} (hp : SRel ρ p len full es a cap) : SRel ρ' p len full es a cap := by
  cases hp with
  | nil => exact .nil
  | dead a e h1 h2 => rcases h _ (by rw [e]; simp) with e' | e'
                      · exact .dead a (e'.trans e) h1 h2
                      · exact .dead a e' h1 h2
  | live e h1 h2 h3 h4 => rcases h _ (by rw [e]; simp) with e' | e'
                          · exact .live (e'.trans e) h1 h2 h3 h4
                          · exact .dead _ e' h1 h2

theorem VRel.mono {ρ ρ' : Ren} (h : Keeps ρ ρ') {v : V} {v' : Value} (hv : VRel ρ v v') : VRel ρ' v v' := by
  induction hv with
  | bool b => exact .bool b
  | int k n => exact .int k n
  | str h => exact .str h
  | ptr hp => exact .ptr (hp.mono h)
  | slice hp => exact .slice (hp.mono h)
  | mapNil => exact .mapNil
  | map e => rcases h _ (by rw [e]; simp) with e' | e'
             · exact .map (e'.trans e)
             · exact .mapDead _ e'
  | mapDead b e => rcases h _ (by rw [e]; simp) with e' | e'
                   · exact .mapDead b (e'.trans e)
                   · exact .mapDead b e'
  | func hn _ ih => exact .func hn fun i v v' a b => ih i v v' a b
  | nilFunc => exact .nilFunc
  | iface _ ih => exact .iface ih
  | nilIface => exact .nilIface
  | agg hc hn _ ih => exact .agg hc hn fun i v v' a b => ih i v v' a b
  | tuple hn _ ih => exact .tuple hn fun i v v' a b => ih i v v' a b

theorem VRels.mono {ρ ρ' : Ren} (h : Keeps ρ ρ') {cs : List V} {cs' : Array Value} (hv : VRels ρ cs cs') : VRels ρ' cs cs' :=
  ⟨hv.1, fun i v v' a b => (hv.2 i v v' a b).mono h⟩

theorem EntriesRel.mono {ρ ρ' : Ren} (h : Keeps ρ ρ') {l : List (V × V × Nat)} {l' : Array MapEntry} (hv : EntriesRel ρ l l') : EntriesRel ρ' l l' :=
  ⟨hv.1, fun i k v s a => let ⟨e, h1, h2, h3, h4⟩ := hv.2 i k v s a; ⟨e, h1, h2.mono h, h3.mono h, h4⟩⟩

/-- One block's row is carried along where its concrete block is as it was. -/
theorem BlkRel.mono {ρ ρ' : Ren} {w w' : World} (h : Keeps ρ ρ') {b o n es : Nat} {ro : Bool} {B : Blk} (hw : w'.heap[b]? = w.heap[b]?) (hB : BlkRel ρ w b o n es ro B) : BlkRel ρ' w' b o n es ro B := by
  cases B with
  | cells es' ro' cs =>
    obtain ⟨h1, h2, h5, c, ⟨T, lo, hi, hc⟩, h3, h4⟩ := hB
    exact ⟨h1, h2, h5, c, ⟨T, lo, hi, by rw [hw]; exact hc.1, hc.2⟩, h3, fun i v hv => let ⟨v', a, b⟩ := h4 i v hv; ⟨v', a, b.mono h⟩⟩
  | map l clock =>
    obtain ⟨h1, h2, l', hl, he⟩ := hB
    exact ⟨h1, h2, l', by rw [hw]; exact hl, he.mono h⟩
  | iter m since seen stepped =>
    obtain ⟨h1, h2, bm, hl, hm⟩ := hB
    refine ⟨h1, h2, bm, by rw [hw]; exact hl, ?_⟩
    rcases hm with hm | ⟨ro', nm, em, hm⟩
    · rcases h m (by rw [hm]; simp) with e | e
      · exact .inl (e.trans hm)
      · exact .inl e
    · rcases h m (by rw [hm]; simp) with e | e
      · exact .inr ⟨ro', nm, em, e.trans hm⟩
      · exact .inl e
  | dead => trivial

end Go.Cn
