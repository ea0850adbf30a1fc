/- Comparing values of flat types (structs and arrays of numbers, strings, bools): cell by cell. -/
import Derived.Test.YtlnpgjfdlefmoaaGreatDoorCnSim2
import Derived.Laws.StructEq
import Derived.ChangeKeysEq
namespace Go.Cn
set_option linter.unusedVariables false
set_option linter.unusedSimpArgs false

/-- Are two concrete leaves the same? -/
def leafEq : LeafK → Value → Value → Option Bool
  | .i, .int k a, .int k' b => if k = k' then some (a == b) else none
  | .s, .string a, .string b => some (a.data.toList == b.data.toList)
  | .b, .bool a, .bool b => some (a == b)
  | _, _, _ => none

def leafsEq : List LeafK → List Value → List Value → Option Bool
  | [], [], [] => some true
  | k :: ks, a :: as, b :: bs => match leafEq k a b, leafsEq ks as bs with
    | some x, some y => some (x && y)
    | _, _ => none
  | _, _, _ => none

theorem leafsEq_len {ks : List LeafK} {a b : List Value} {r : Bool} (h : leafsEq ks a b = some r) : a.length = ks.length ∧ b.length = ks.length := by
  induction ks generalizing a b r with
  | nil => cases a <;> cases b <;> simp [leafsEq] at h ⊢
  | cons k ks ih => cases a with
    | nil => simp [leafsEq] at h
    | cons x xs => cases b with
      | nil => simp [leafsEq] at h
      | cons y ys =>
        simp only [leafsEq] at h
        split at h
        case h_2 => cases h
        rename_i u v h1 h2
        have := ih h2
        simp [this.1, this.2]

theorem leafsEq_append {ks : List LeafK} : ∀ {ks' : List LeafK} {a b c d : List Value}, a.length = ks.length → c.length = ks.length →
    leafsEq (ks ++ ks') (a ++ b) (c ++ d) = (match leafsEq ks a c, leafsEq ks' b d with | some x, some y => some (x && y) | _, _ => none) := by
  induction ks with
  | nil =>
    intro ks' a b c d h1 h2
    obtain rfl := List.eq_nil_of_length_eq_zero h1
    obtain rfl := List.eq_nil_of_length_eq_zero h2
    simp [leafsEq]; cases leafsEq ks' b d <;> rfl
  | cons k ks ih =>
    intro ks' a b c d h1 h2
    match a, c, h1, h2 with
    | x :: xs, y :: ys, h1, h2 =>
      simp only [List.length_cons, Nat.add_right_cancel_iff] at h1 h2
      simp only [List.cons_append, leafsEq, ih h1 h2]
      cases leafEq k x y <;> cases leafsEq ks xs ys <;> cases leafsEq ks' b d <;> simp [Bool.and_assoc]

theorem leafsEq_split {ks ks' : List LeafK} {a b : List Value} {r : Bool} (h : leafsEq (ks ++ ks') a b = some r) :
    ∃ r1 r2, leafsEq ks (a.take ks.length) (b.take ks.length) = some r1 ∧ leafsEq ks' (a.drop ks.length) (b.drop ks.length) = some r2 ∧ r = (r1 && r2) := by
  obtain ⟨hl1, hl2⟩ := leafsEq_len h
  rw [List.length_append] at hl1 hl2
  rw [← List.take_append_drop ks.length a, ← List.take_append_drop ks.length b, leafsEq_append (by simp; omega) (by simp; omega)] at h
  split at h
  · rename_i x y h1 h2
    cases h
    exact ⟨x, y, h1, h2, rfl⟩
  · cases h

theorem bytes_eq (a b : ByteArray) : (a.toList == b.toList) = (a.data.toList == b.data.toList) := by
  rw [ByteArray.toList_eq, ByteArray.toList_eq]

/-- The cells of a type, from a place on, as one value. -/
def seg (P : Program) (t : TypeId) (n : Nat) (cs : List Value) : Option Value :=
  match aggT P t with
  | some true => if cs.length = n then some (.agg cs.toArray) else none
  | some false => match cs with
    | [v] => some v
    | _ => none
  | none => none

section
variable {P : Program}

theorem run_part_seg {t : TypeId} {n : Nat} (hz : szT P t = some n) {xs : Array Value} {off : Nat} {v : Value} (h : seg P t n ((xs.toList.drop off).take n) = some v) (hs : aggT P t = some false → n = 1) (w : World) : (part t xs off).run P w = .ok v w := by
  unfold seg at h
  unfold part
  split at h
  · rename_i hg
    split at h
    case isFalse => cases h
    rename_i hl
    cases h
    simp only [Sem.run_bind, run_isAgg hg, Result.andThen_ok, if_true, run_szT hz, Sem.run_pure]
    congr 2
    apply Array.ext'
    rw [Array.toList_extract]
    simp [List.extract]
  · rename_i hg
    split at h
    case h_2 => cases h
    rename_i v1 hv
    cases h
    obtain rfl := hs hg
    simp only [Sem.run_bind, run_isAgg hg, Result.andThen_ok, Bool.false_eq_true, if_false]
    have : xs[off]? = some v := by
      rw [← Array.getElem?_toList]
      have h2 : ((xs.toList.drop off).take 1)[0]? = some v := by rw [hv]; rfl
      rw [List.getElem?_take_of_lt (by omega), List.getElem?_drop] at h2
      simpa using h2
    rw [this]; rfl
  · cases h

/-- A flat type: a scalar of one cell, or an aggregate. -/
theorem flat_agg {d : Nat} {t : TypeId} {ks : List LeafK} (h : flatK P d t = some ks) : ∃ g, aggT P t = some g ∧ (g = false → szT P t = some 1 ∧ ks.length = 1) := by
  cases d with
  | zero => simp [flatK] at h
  | succ d =>
    unfold flatK at h
    cases hu : P.underlying t with
    | none => simp [hu] at h
    | some k =>
      cases k <;> simp only [hu] at h <;> first
        | cases h
        | (refine ⟨false, by simp [aggT, hu], fun _ => ?_⟩; split at h <;> cases h; exact ⟨‹_›, rfl⟩)
        | exact ⟨true, by simp [aggT, hu], fun e => by cases e⟩

def EqOk (P : Program) (D : Nat) (t : TypeId) (ks : List LeafK) : Prop :=
  ∀ (xs ys : List Value) (x y : Value) (b : Bool) (w : World), seg P t ks.length xs = some x → seg P t ks.length ys = some y → leafsEq ks xs ys = some b → (Op.equalIn D t x y).run P w = .ok b w

theorem seg_some {d : Nat} {t : TypeId} {ks : List LeafK} (hf : flatK P d t = some ks) {xs : List Value} (hl : xs.length = ks.length) : ∃ x, seg P t ks.length xs = some x := by
  obtain ⟨g, hg, h1⟩ := flat_agg hf
  unfold seg
  rw [hg]
  cases g with
  | true => exact ⟨.agg xs.toArray, by simp only [hl, if_true]⟩
  | false =>
    have := (h1 rfl).2
    match xs, hl.trans this with
    | [v], _ => exact ⟨v, rfl⟩

theorem flat_one {d : Nat} {t : TypeId} {ks : List LeafK} (hf : flatK P d t = some ks) : aggT P t = some false → ks.length = 1 := by
  intro h
  obtain ⟨g, hg, h1⟩ := flat_agg hf
  rw [h] at hg
  cases hg
  exact (h1 rfl).2

def offs (P : Program) (d : Nat) (acc : Option Nat) (f : Field) : Option Nat :=
  match acc, szT P f.type with
  | some o, some s => if f.offset = o ∧ tight P d f.type then some (o + s) else none
  | _, _ => none

theorem offs_none (d : Nat) : ∀ l : List Field, l.foldl (offs P d) none = none
  | [] => rfl
  | _ :: l => offs_none d l

def fks (P : Program) (d : Nat) (f : Field) (acc : Option (List LeafK)) : Option (List LeafK) :=
  match acc, flatK P d f.type with
  | some l, some k => if f.name ≠ "_" then some (k ++ l) else none
  | _, _ => none

/-- A flat, tight type has as many cells as leaves. -/
theorem flat_size : ∀ (d : Nat) (t : TypeId) (ks : List LeafK) (n : Nat), flatK P d t = some ks → tight P d t = true → szT P t = some n → ks.length = n
  | 0, t, ks, n, hf, _, _ => by simp [flatK] at hf
  | d + 1, t, ks, n, hf, ht, hz => by
    have fields : ∀ (fs : List Field) (o tot : Nat) (l : List LeafK), fs.foldr (fks P d) (some []) = some l → fs.foldl (offs P d) (some o) = some tot → o + l.length = tot := by
      intro fs
      induction fs with
      | nil => intro o tot l h1 h2; simp at h1 h2; subst h1; simpa using h2
      | cons f fs ih =>
        intro o tot l h1 h2
        simp only [List.foldr_cons, fks] at h1
        split at h1
        case h_2 => cases h1
        rename_i l' k hl' hk
        split at h1
        case isFalse => cases h1
        cases h1
        simp only [List.foldl_cons, offs] at h2
        split at h2
        case h_2 => rw [offs_none] at h2; cases h2
        rename_i o' s e1 hs
        cases e1
        split at h2
        case isFalse => rw [offs_none] at h2; cases h2
        rename_i hc
        have := ih _ _ _ hl' h2
        have e := flat_size d f.type k s hk hc.2 hs
        simp; omega
    unfold flatK at hf
    unfold tight at ht
    cases hu : P.underlying t with
    | none => simp [hu] at hf
    | some k =>
      cases k with
      | struct fs =>
        simp only [hu] at hf ht
        split at hf
        case isFalse => cases hf
        have := fields fs.toList 0 n ks hf (by rw [← hz]; exact beq_iff_eq.1 ht)
        omega
      | array m e =>
        simp only [hu] at hf ht
        split at hf
        case isFalse => cases hf
        cases hk : flatK P d e with
        | none => simp [hk] at hf
        | some k =>
          simp [hk] at hf
          subst hf
          simp only [Bool.and_eq_true, beq_iff_eq] at ht
          cases hs : szT P e with
          | none => simp [hs, hz] at ht
          | some s =>
            have e1 := flat_size d e k s hk ht.1 hs
            have e2 := ht.2
            simp [hs, hz] at e2
            simp [e1, e2]
      | bool => simp only [hu] at hf; split at hf <;> cases hf; rename_i h; rw [hz] at h; cases h; rfl
      | int q => simp only [hu] at hf; split at hf <;> cases hf; rename_i h; rw [hz] at h; cases h; rfl
      | string => simp only [hu] at hf; split at hf <;> cases hf; rename_i h; rw [hz] at h; cases h; rfl
      | _ => simp [hu] at hf

theorem eqFields_ok {D d : Nat} (ih : ∀ t ks, flatK P d t = some ks → tight P d t = true → EqOk P D t ks) (X Y : Array Value) : ∀ (fs : List Field) (o tot : Nat) (b : Bool) (w : World) (ks : List LeafK),
    fs.foldr (fks P d) (some []) = some ks → fs.foldl (offs P d) (some o) = some tot →
    leafsEq ks (X.toList.drop o) (Y.toList.drop o) = some b → (Op.eqFields D X Y fs).run P w = .ok b w
  | [], o, tot, b, w, ks, hf, hs, hb => by
    simp at hf
    subst hf
    cases hx : X.toList.drop o <;> cases hy : Y.toList.drop o <;> simp [hx, hy, leafsEq] at hb
    subst hb
    simp [Op.eqFields]
  | f :: fs, o, tot, b, w, ks, hf, hs, hb => by
    simp only [List.foldr_cons, fks] at hf
    split at hf
    case h_2 => cases hf
    rename_i l k hl hk
    split at hf
    case isFalse => cases hf
    rename_i hn
    cases hf
    simp only [List.foldl_cons, offs] at hs
    split at hs
    case h_2 => rw [offs_none] at hs; cases hs
    rename_i o' s e1 hz
    cases e1
    split at hs
    case isFalse => rw [offs_none] at hs; cases hs
    rename_i hc
    obtain ⟨ho, ht⟩ := hc
    have hsz := flat_size d f.type k s hk ht hz
    obtain ⟨r1, r2, h1, h2, rfl⟩ := leafsEq_split hb
    rw [List.drop_drop, List.drop_drop] at h2
    have hlen := leafsEq_len h1
    obtain ⟨x, hxs⟩ := seg_some hk hlen.1
    obtain ⟨y, hys⟩ := seg_some hk hlen.2
    have e1 := ih f.type k hk ht _ _ x y r1 w hxs hys h1
    have one := flat_one hk
    rw [hsz] at hxs hys h2 one
    have p1 := run_part_seg (off := o) hz hxs one
    have p2 := run_part_seg (off := o) hz hys one
    have e2 := eqFields_ok ih X Y fs (o + s) tot r2 w l hl hs h2
    subst ho
    simp only [Op.eqFields, hn, ne_eq, not_false_eq_true, if_true, Sem.run_bind, p1, p2, e1, Result.andThen_ok]
    cases r1
    · simp
    · simpa using e2

theorem eqItems_ok {D d : Nat} {e : TypeId} {s : Nat} {k : List LeafK} (ih : EqOk P D e k) (hk : flatK P d e = some k) (hsz : k.length = s) (hz : szT P e = some s) (X Y : Array Value) : ∀ (m j : Nat) (b : Bool) (w : World),
    leafsEq (List.replicate m k).flatten (X.toList.drop (j * s)) (Y.toList.drop (j * s)) = some b → (Op.eqItems D e s X Y (List.range' j m)).run P w = .ok b w
  | 0, j, b, w, hb => by
    cases hx : X.toList.drop (j * s) <;> cases hy : Y.toList.drop (j * s) <;> simp [hx, hy, leafsEq] at hb
    subst hb
    simp [Op.eqItems]
  | m + 1, j, b, w, hb => by
    rw [List.replicate_succ, List.flatten_cons] at hb
    obtain ⟨r1, r2, h1, h2, rfl⟩ := leafsEq_split hb
    have hlen := leafsEq_len h1
    obtain ⟨x, hxs⟩ := seg_some hk hlen.1
    obtain ⟨y, hys⟩ := seg_some hk hlen.2
    have e1 := ih _ _ x y r1 w hxs hys h1
    have one := flat_one hk
    rw [List.drop_drop, List.drop_drop, hsz, ← Nat.succ_mul] at h2
    rw [hsz] at hxs hys one
    have p1 := run_part_seg (off := j * s) hz hxs one
    have p2 := run_part_seg (off := j * s) hz hys one
    have e2 := eqItems_ok ih hk hsz hz X Y m (j + 1) r2 w h2
    simp only [List.range'_succ, Op.eqItems, Sem.run_bind, p1, p2, e1, Result.andThen_ok]
    cases r1
    · simp
    · simpa using e2

theorem equalIn_ok : ∀ (d D : Nat) (t : TypeId) (ks : List LeafK), flatK P d t = some ks → tight P d t = true → EqOk P (D + d) t ks
  | 0, D, t, ks, hf, ht => by simp [flatK] at hf
  | d + 1, D, t, ks, hf, ht => by
    intro xs ys x y b w hx hy hb
    have ih := fun u ku => equalIn_ok d D u ku
    have hf0 := hf
    unfold flatK at hf
    unfold tight at ht
    have hD : D + (d + 1) = (D + d) + 1 := rfl
    cases hu : P.underlying t with
    | none => simp [hu] at hf
    | some k =>
      cases k with
      | struct fs =>
        simp only [hu] at hf ht
        split at hf
        case isFalse => cases hf
        rename_i hc
        simp only [seg, aggT, hu] at hx hy
        split at hx <;> cases hx
        split at hy <;> cases hy
        have hfs : P.fieldsOf t = fs := by simp [Program.fieldsOf, hu]
        rw [hD, run_equalIn_struct w (D + d) t _ _ (by rw [hfs]; exact hu) hc.1, hfs]
        cases hz : szT P t with
        | none =>
          simp only [hz, beq_iff_eq] at ht
          exfalso
          have : ∀ (l : List Field) (o : Nat) (r : List LeafK), l.foldr (fks P d) (some []) = some r → l.foldl (offs P d) (some o) ≠ none → True := fun _ _ _ _ _ => trivial
          have hne : ∀ (l : List Field) (o : Nat), l.foldl (offs P d) (some o) = none → False ∨ True := fun _ _ _ => .inr trivial
          have hag := flat_agg hf0
          -- a type with an underlying type has a size
          have : ∃ i, P.info? t = some i := by
            unfold Program.underlying at hu
            cases hi : P.info? t with
            | none => simp [hi] at hu
            | some i => exact ⟨i, rfl⟩
          obtain ⟨i, hi⟩ := this
          simp [szT, hi] at hz
        | some n =>
          exact eqFields_ok ih _ _ fs.toList 0 n b w ks hf (by rw [← hz]; exact beq_iff_eq.1 ht) (by simpa using hb)
      | array m e =>
        simp only [hu] at hf ht
        split at hf
        case isFalse => cases hf
        cases hk : flatK P d e with
        | none => simp [hk] at hf
        | some k =>
          simp [hk] at hf
          subst hf
          simp only [Bool.and_eq_true, beq_iff_eq] at ht
          simp only [seg, aggT, hu] at hx hy
          split at hx <;> cases hx
          split at hy <;> cases hy
          have : ∃ i, P.info? e = some i := by
            obtain ⟨g, hg, _⟩ := flat_agg hk
            unfold aggT Program.underlying at hg
            cases hi : P.info? e with
            | none => simp [hi] at hg
            | some i => exact ⟨i, rfl⟩
          obtain ⟨i, hi⟩ := this
          have hs : szT P e = some i.size := by simp [szT, hi]
          have hc : P.cellsOf e = i.size := by simp [Program.cellsOf, hi]
          rw [hD, run_equalIn_array w (D + d) _ _ hu hi, hc, List.range_eq_range']
          exact eqItems_ok (ih e k hk ht.1) hk (flat_size d e k _ hk ht.1 hs) hs _ _ m 0 b w (by simpa using hb)
      | bool =>
        simp only [hu] at hf; split at hf <;> cases hf
        obtain ⟨l1, l2⟩ := leafsEq_len hb
        match xs, ys, l1, l2 with
        | [u], [v], _, _ =>
          simp [seg, aggT, hu] at hx hy
          subst hx; subst hy
          cases u <;> cases v <;> simp [leafsEq, leafEq] at hb
          subst hb
          simp [hD, Op.equalIn, run_underlying hu]
      | int q =>
        simp only [hu] at hf; split at hf <;> cases hf
        obtain ⟨l1, l2⟩ := leafsEq_len hb
        match xs, ys, l1, l2 with
        | [u], [v], _, _ =>
          simp [seg, aggT, hu] at hx hy
          subst hx; subst hy
          cases u with
          | int k1 n1 => cases v with
            | int k2 n2 =>
              by_cases hkk : k1 = k2
              · subst hkk
                simp [leafsEq, leafEq] at hb
                subst hb
                simp [hD, Op.equalIn, run_underlying hu]
              · simp [leafsEq, leafEq, hkk] at hb
            | _ => simp [leafsEq, leafEq] at hb
          | _ => cases v <;> simp [leafsEq, leafEq] at hb
      | string =>
        simp only [hu] at hf; split at hf <;> cases hf
        obtain ⟨l1, l2⟩ := leafsEq_len hb
        match xs, ys, l1, l2 with
        | [u], [v], _, _ =>
          simp [seg, aggT, hu] at hx hy
          subst hx; subst hy
          cases u <;> cases v <;> simp [leafsEq, leafEq] at hb
          subst hb
          simp [hD, Op.equalIn, run_underlying hu, ByteArray.toList_eq, beq_toListBytes]
      | _ => simp [hu] at hf

/-- '==' at a flat type. -/
theorem equal_ok {t : TypeId} {ks : List LeafK} (h : flatKey P t = some ks) : EqOk P 10000 t ks := by
  unfold flatKey at h
  split at h
  case isFalse => cases h
  exact equalIn_ok 20 9980 t ks h ‹_›

/-- Abstract leaves that stand for concrete ones compare alike. -/
theorem cellEq_leaf {ρ : Ren} {k : LeafK} {a b : V} {x y : Value} {r : Bool} (ha : VRel ρ a x) (hb : VRel ρ b y) (h : cellEq k a b = some r) : leafEq k x y = some r := by
  unfold cellEq at h
  split at h
  · rw [ha.int_inv, hb.int_inv]; exact h
  · obtain ⟨s, rfl, rfl⟩ := ha.str_inv
    obtain ⟨t, rfl, rfl⟩ := hb.str_inv
    exact h
  · rw [ha.bool_inv, hb.bool_inv]; exact h
  · cases h

theorem cellsEq_leafs {ρ : Ren} : ∀ {ks : List LeafK} {a b : List V} {x y : List Value} {r : Bool}, L2 (VRel ρ) a x → L2 (VRel ρ) b y → cellsEq ks a b = some r → leafsEq ks x y = some r
  | [], [], [], x, y, r, ha, hb, h => by cases ha; cases hb; exact h
  | k :: ks, a :: as, b :: bs, x, y, r, ha, hb, h => by
    obtain _ | ⟨h1, h2⟩ := ha
    obtain _ | ⟨h3, h4⟩ := hb
    simp only [cellsEq] at h
    split at h
    case h_2 => cases h
    rename_i u v e1 e2
    simp only [leafsEq, cellEq_leaf h1 h3 e1, cellsEq_leafs h2 h4 e2, h]
  | [], [], _ :: _, x, y, r, ha, hb, h => by simp [cellsEq] at h
  | [], _ :: _, _, x, y, r, ha, hb, h => by simp [cellsEq] at h
  | _ :: _, [], _, x, y, r, ha, hb, h => by simp [cellsEq] at h
  | _ :: _, _ :: _, [], x, y, r, ha, hb, h => by simp [cellsEq] at h

theorem VRels.l2 {ρ : Ren} : ∀ {cs : List V} {cs' : Array Value}, VRels ρ cs cs' → L2 (VRel ρ) cs cs'.toList := by
  intro cs cs' h
  obtain ⟨l⟩ := cs'
  obtain ⟨hn, hi⟩ := h
  simp at hn hi
  induction cs generalizing l with
  | nil => cases l <;> simp at hn; exact .nil
  | cons c cs ih => cases l with
    | nil => simp at hn
    | cons v l =>
      refine .cons (hi 0 c v rfl rfl) (ih l (by simpa using hn) fun i a b ha hb => hi (i + 1) a b (by simpa using ha) (by simpa using hb))

end
end Go.Cn
