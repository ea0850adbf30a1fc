/- Maps at flat keys: looking up, storing, deleting. -/
import Derived.Test.YtlnpgjfdlefmoaaGreatDoorCnSim5
namespace Go.Cn
set_option linter.unusedVariables false
set_option linter.unusedSimpArgs false
set_option maxHeartbeats 100000

section
variable {P : Program} {ρ : Ren} {H : Heap} {w : World} {o : Oper} {a : Act} {e : Env}

def KeyOk (P : Program) (D : Nat) (t : TypeId) (n : Nat) : Prop :=
  ∀ (em : Bool) (xs : List Value) (x : Value) (w : World), seg P t n xs = some x → (Instr.checkKey em D t x).run P w = .ok () w

theorem keyFields_ok {D d : Nat} {em : Bool} (ih : ∀ t ks, flatK P d t = some ks → tight P d t = true → KeyOk P D t ks.length) (X : Array Value) : ∀ (fs : List Field) (o tot : Nat) (w : World) (ks : List LeafK),
    fs.foldr (fks P d) (some []) = some ks → fs.foldl (offs P d) (some o) = some tot → X.size = tot →
    (forIn (m := Sem) fs PUnit.unit fun f _ => (if f.name ≠ "_" then do Instr.checkKey em D f.type (← part f.type X f.offset); pure (ForInStep.yield PUnit.unit) else pure (ForInStep.yield PUnit.unit) : Sem (ForInStep PUnit))).run P w = .ok PUnit.unit w
  | [], o, tot, w, ks, hf, hs, hx => by simp
  | f :: fs, o, tot, w, ks, hf, hs, hx => by
    simp only [List.foldr_cons, fks] at hf
    split at hf
    case h_2 => cases hf
    rename_i l k hl hk
    split at hf
    case isFalse => cases hf
    rename_i hn
    cases hf
    simp only [List.foldl_cons, offs] at hs
    split at hs
    case h_2 => rw [offs_none] at hs; cases hs
    rename_i o' s e1 hz
    cases e1
    split at hs
    case isFalse => rw [offs_none] at hs; cases hs
    rename_i hc
    obtain ⟨ho, ht⟩ := hc
    have hsz := flat_size d f.type k s hk ht hz
    have htot : o + s ≤ tot := by
      have : ∀ (l : List Field) (a b : Nat), l.foldl (offs P d) (some a) = some b → a ≤ b := by
        intro l
        induction l with
        | nil => intro a b h; simp at h; omega
        | cons g l ihl =>
          intro a b h
          simp only [List.foldl_cons] at h
          cases hg : offs P d (some a) g with
          | none => rw [hg, offs_none] at h; cases h
          | some a' =>
            rw [hg] at h
            have := ihl _ _ h
            unfold offs at hg
            split at hg
            · split at hg <;> simp at hg
              rename_i h1 _ _
              cases h1
              omega
            · cases hg
      exact this _ _ _ hs
    obtain ⟨x, hxs⟩ := seg_some (xs := (X.toList.drop o).take s) hk (by simp; omega)
    have e1 := ih f.type k hk ht em _ x w hxs
    have one := flat_one hk
    rw [hsz] at hxs one
    have p1 := run_part_seg (off := o) hz hxs one w
    have e2 := keyFields_ok (em := em) ih X fs (o + s) tot w l hl hs hx
    subst ho
    simp only [List.forIn_cons, hn, ne_eq, not_false_eq_true, if_true, Sem.run_bind, p1, e1, Result.andThen_ok, Sem.run_pure]
    exact e2

theorem keyItems_ok {D d : Nat} {em : Bool} {e : TypeId} {s : Nat} {k : List LeafK} (ih : KeyOk P D e k.length) (hk : flatK P d e = some k) (hsz : k.length = s) (hz : szT P e = some s) (X : Array Value) : ∀ (m j : Nat) (w : World),
    X.size = (j + m) * s → (forIn (m := Sem) (List.range' j m) PUnit.unit fun i _ => (do
      let n ← sizeOf e
      let v ← part e X (i * n)
      Instr.checkKey em D e v
      pure (ForInStep.yield PUnit.unit) : Sem (ForInStep PUnit))).run P w = .ok PUnit.unit w
  | 0, j, w, hx => by simp
  | m + 1, j, w, hx => by
    have hle : j * s + s ≤ (j + (m + 1)) * s := by rw [← Nat.succ_mul]; exact Nat.mul_le_mul_right _ (by omega)
    obtain ⟨x, hxs⟩ := seg_some (xs := (X.toList.drop (j * s)).take s) hk (by simp; omega)
    have e1 := ih em _ x w hxs
    have one := flat_one hk
    rw [hsz] at hxs one
    have p1 := run_part_seg (off := j * s) hz hxs one w
    have e2 := keyItems_ok (em := em) ih hk hsz hz X m (j + 1) w (by rw [hx]; congr 1; omega)
    simp only [List.range'_succ, List.forIn_cons, Sem.run_bind, run_szT hz, p1, e1, Result.andThen_ok, Sem.run_pure]
    exact e2

theorem checkKey_ok : ∀ (d D : Nat) (t : TypeId) (ks : List LeafK), flatK P d t = some ks → tight P d t = true → KeyOk P (D + d) t ks.length
  | 0, D, t, ks, hf, ht => by simp [flatK] at hf
  | d + 1, D, t, ks, hf, ht => by
    intro em xs x w hx
    have ih := fun u ku => checkKey_ok d D u ku
    have hf0 := hf
    unfold flatK at hf
    unfold tight at ht
    have hD : D + (d + 1) = (D + d) + 1 := rfl
    cases hu : P.underlying t with
    | none => simp [hu] at hf
    | some k =>
      cases k with
      | struct fs =>
        simp only [hu] at hf ht
        split at hf
        case isFalse => cases hf
        simp only [seg, aggT, hu] at hx
        split at hx <;> cases hx
        rename_i hlen
        have : ∃ i, P.info? t = some i := by
          unfold Program.underlying at hu
          cases hi : P.info? t with
          | none => simp [hi] at hu
          | some i => exact ⟨i, rfl⟩
        obtain ⟨i, hi⟩ := this
        have hz : szT P t = some i.size := by simp [szT, hi]
        have hsz := flat_size (d + 1) t ks i.size hf0 (by unfold tight; simp only [hu]; exact ht) hz
        have := keyFields_ok (em := em) ih xs.toArray fs.toList 0 i.size w ks hf (by rw [← hz]; exact beq_iff_eq.1 ht) (by simp; omega)
        rw [hD, Instr.checkKey]
        simp only [Sem.run_bind, run_underlying hu, Result.andThen_ok]
        rw [← Array.forIn_toList, this]
        rfl
      | array m e =>
        simp only [hu] at hf ht
        split at hf
        case isFalse => cases hf
        simp only [seg, aggT, hu] at hx
        split at hx <;> cases hx
        rw [hD, Instr.checkKey]
        simp only [Sem.run_bind, run_underlying hu, Result.andThen_ok]
        cases hk : flatK P d e with
        | none => simp [hk] at hf
        | some k =>
          simp [hk] at hf
          subst hf
          simp only [Bool.and_eq_true, beq_iff_eq] at ht
          have : ∃ i, P.info? e = some i := by
            obtain ⟨g, hg, _⟩ := flat_agg hk
            unfold aggT Program.underlying at hg
            cases hi : P.info? e with
            | none => simp [hi] at hg
            | some i => exact ⟨i, rfl⟩
          obtain ⟨i, hi⟩ := this
          have hs : szT P e = some i.size := by simp [szT, hi]
          have hsz := flat_size d e k _ hk ht.1 hs
          simp only [Std.Legacy.Range.forIn_eq_forIn_range', Std.Legacy.Range.size, Nat.sub_zero, Nat.add_one_sub_one, Nat.div_one]
          have hlen : xs.length = m * i.size := by rename_i h; rw [h]; simp [hsz]
          rw [keyItems_ok (em := em) (ih e k hk ht.1) hk hsz hs xs.toArray m 0 w (by simp [hlen])]
          rfl
      | bool => simp [hD, Instr.checkKey, run_underlying hu]
      | int q => simp [hD, Instr.checkKey, run_underlying hu]
      | string => simp [hD, Instr.checkKey, run_underlying hu]
      | _ => simp [hu] at hf
theorem seg_cells {t : TypeId} {g : Bool} {ks : List LeafK} (hg : aggT P t = some g) {v : V} {v' : Value} (hv : VRel ρ v v') (hf : keyFit g ks v = true) :
    seg P t ks.length v'.cells.toList = some v' ∧ VRels ρ v.cells v'.cells := by
  unfold seg
  rw [hg]
  cases g with
  | true =>
    cases v <;> simp [keyFit] at hf
    rename_i cs
    obtain ⟨cs', rfl, h3, _⟩ := hv.agg_inv
    have : cs'.toList.length = ks.length := by rw [Array.length_toList, ← h3.1]; exact hf
    refine ⟨?_, h3⟩
    simp only [Value.cells, this, if_true]
  | false =>
    simp only [keyFit, Bool.and_eq_true, beq_iff_eq] at hf
    have hc := hf.1
    have hcell : ∀ x ∈ v.cells, x.isCell = true := by
      cases v <;> simp [V.isCell, V.cells] at hc ⊢
    refine ⟨?_, cells_rel hv hcell⟩
    cases hv <;> first | rfl | (simp [V.isCell] at hc)

theorem run_checkKey {t : TypeId} {g : Bool} {ks : List LeafK} (hk : flatKey P t = some ks) (hg : aggT P t = some g) {v : V} {v' : Value} (hv : VRel ρ v v') (hf : keyFit g ks v = true) (em : Bool) (w : World) :
    (Instr.checkKey em 10000 t v').run P w = .ok () w := by
  have hs := (seg_cells (P := P) hg hv hf).1
  unfold flatKey at hk
  split at hk
  case isFalse => cases hk
  rename_i ht
  exact checkKey_ok 20 9980 t ks hk ht em _ v' w hs

theorem run_keyEq {t : TypeId} {g : Bool} {ks : List LeafK} (hk : flatKey P t = some ks) (hg : aggT P t = some g) {v u : V} {v' u' : Value} (hv : VRel ρ v v') (hu : VRel ρ u u') (hf : keyFit g ks v = true) (hf' : keyFit g ks u = true) {b : Bool}
    (he : cellsEq ks v.cells u.cells = some b) (w : World) : (Op.equal t v' u').run P w = .ok b w := by
  obtain ⟨h1, h2⟩ := seg_cells (P := P) hg hv hf
  obtain ⟨h3, h4⟩ := seg_cells (P := P) hg hu hf'
  exact equal_ok hk _ _ v' u' b w h1 h3 (cellsEq_leafs h2.l2 h4.l2 he)

/-- What a search finds, abstractly and in the model. -/
inductive Found (ρ : Ren) : Option (Nat × V × V) → Option (Nat × Value) → Prop where
  | none : Found ρ none none
  | some {i : Nat} {k v : V} {v' : Value} (h : VRel ρ v v') : Found ρ (some (i, k, v)) (some (i, v'))

theorem next_found {x : Option (Option (Nat × V × V))} {r : Option (Nat × V × V)} (h : (match x with | some (some (i, x, y)) => some (some (i + 1, x, y)) | r => r) = some r) :
    ∃ r0, x = some r0 ∧ r = r0.map fun (i, x, y) => (i + 1, x, y) := by
  match x, h with
  | none, h => cases h
  | some none, h => cases h; exact ⟨none, rfl, rfl⟩
  | some (some (i, x, y)), h => cases h; exact ⟨_, rfl, rfl⟩

theorem findAsking_ok {t : TypeId} {g : Bool} {ks : List LeafK} (hk : flatKey P t = some ks) (hg : aggT P t = some g) {k : V} {k' : Value} (hv : VRel ρ k k') (hf : keyFit g ks k = true) (w : World) :
    ∀ {l : List (V × V × Nat)} {l' : List MapEntry} (n : Nat) {r : Option (Nat × V × V)}, L2 (fun e e' => VRel ρ e.1 e'.key ∧ VRel ρ e.2.1 e'.val ∧ e'.born = e.2.2) l l' → findE g ks k l = some r →
    ∃ r', (Instr.findAsking t k' l' n).run P w = .ok r' w ∧ Found ρ (r.map fun (i, x, y) => (i + n, x, y)) r'
  | [], l', n, r, hl, h => by
    cases hl
    simp [findE] at h
    subst h
    exact ⟨none, by simp [Instr.findAsking], .none⟩
  | (k1, v1, s1) :: l, l', n, r, hl, h => by
    obtain _ | ⟨⟨h1, h2, h3⟩, ht⟩ := hl
    rename_i e' l'
    unfold findE at h
    split at h
    case isTrue => cases h
    rename_i hfit
    simp at hfit
    split at h
    · rename_i hc
      cases h
      have hq := run_keyEq (P := P) hk hg hv h1 hf hfit hc w
      exact ⟨some (n, e'.val), by simp only [Instr.findAsking, Sem.run_bind, hq, Result.andThen_ok, if_true, Sem.run_pure], by simp; exact .some h2⟩
    · rename_i hc
      have hq := run_keyEq (P := P) hk hg hv h1 hf hfit hc w
      obtain ⟨r0, hr0, hrr⟩ := next_found h
      obtain ⟨r', g1, g2⟩ := findAsking_ok hk hg hv hf w (n + 1) ht hr0
      refine ⟨r', by simp only [Instr.findAsking, Sem.run_bind, hq, Result.andThen_ok, Bool.false_eq_true, if_false, g1], ?_⟩
      rw [hrr]
      cases r0 with
      | none => simpa using g2
      | some z =>
        obtain ⟨i, x, y⟩ := z
        simp only [Option.map_some] at g2 ⊢
        rw [show i + 1 + n = i + (n + 1) from by omega]
        exact g2
    · cases h

theorem EntriesRel.l2 {l : List (V × V × Nat)} {l' : Array MapEntry} (h : EntriesRel ρ l l') : L2 (fun e e' => VRel ρ e.1 e'.key ∧ VRel ρ e.2.1 e'.val ∧ e'.born = e.2.2) l l'.toList := by
  obtain ⟨l'⟩ := l'
  obtain ⟨hn, hi⟩ := h
  simp at hn hi ⊢
  induction l generalizing l' with
  | nil => cases l' <;> simp at hn; exact .nil
  | cons c cs ih => cases l' with
    | nil => simp at hn
    | cons v l' =>
      obtain ⟨k, x, s⟩ := c
      refine .cons ?_ (ih l' (by simpa using hn) fun i a b s hs => hi (i + 1) a b s (by simpa using hs))
      obtain ⟨e, he, h1, h2, h3⟩ := hi 0 k x s rfl
      simp at he
      subst he
      exact ⟨h1, h2, h3⟩

theorem findNow_ok {t : TypeId} {d : TypeDesc} (hu : P.underlying t = some d) {g : Bool} {ks : List LeafK} (hk : flatKey P t = some ks) (hg : aggT P t = some g) {k : V} {k' : Value} (hv : VRel ρ k k') (hf : keyFit g ks k = true) :
    ∀ {l : List (V × V × Nat)} {l' : List MapEntry} (n : Nat) {r : Option (Nat × V × V)} {q : Option (Nat × Value)}, L2 (fun e e' => VRel ρ e.1 e'.key ∧ VRel ρ e.2.1 e'.val ∧ e'.born = e.2.2) l l' → findE g ks k l = some r →
    Instr.findNow d k' l' n = some q → Found ρ (r.map fun (i, x, y) => (i + n, x, y)) q
  | [], l', n, r, q, hl, h, hq => by
    cases hl
    simp [findE] at h
    subst h
    simp [Instr.findNow] at hq
    subst hq
    exact .none
  | (k1, v1, s1) :: l, l', n, r, q, hl, h, hq => by
    obtain _ | ⟨⟨h1, h2, h3⟩, ht⟩ := hl
    rename_i e' l'
    unfold findE at h
    split at h
    case isTrue => cases h
    rename_i hfit
    simp at hfit
    have hsame : ∀ b, Instr.sameNow d k' e'.key = some b → cellsEq ks k.cells k1.cells = some b ∨ cellsEq ks k.cells k1.cells = none := by
      intro b hb
      cases hce : cellsEq ks k.cells k1.cells with
      | none => exact .inr rfl
      | some b' =>
        left
        have hqq := run_keyEq (P := P) hk hg hv h1 hf hfit hce default
        clear hq
        clear h h3 ht h2
        generalize e'.key = ek at hb hqq h1
        unfold Instr.sameNow at hb
        split at hb
        · split at hb
          · rename_i q1 j m j' m' hjj
            subst hjj
            cases hb
            rw [equal_succ, Op.equalIn] at hqq
            simp only [Sem.run_bind, run_underlying hu, Result.andThen_ok, if_true, Sem.run_pure] at hqq
            injection hqq with e _
            rw [e]
          · cases hb
        · cases hb
          rw [equal_succ, Op.equalIn] at hqq
          simp only [Sem.run_bind, run_underlying hu, Result.andThen_ok, Sem.run_pure] at hqq
          injection hqq with e _
          rw [e]
        · cases hb
          rw [equal_succ, Op.equalIn] at hqq
          simp only [Sem.run_bind, run_underlying hu, Result.andThen_ok, Sem.run_pure] at hqq
          injection hqq with e _
          rw [e]
        · cases hb
    simp only [Instr.findNow] at hq
    split at hq
    · rename_i hb
      cases hq
      rcases hsame true hb with hc | hc
      · rw [hc] at h
        cases h
        simp
        exact .some h2
      · rw [hc] at h; cases h
    · rename_i hb
      rcases hsame false hb with hc | hc
      · rw [hc] at h
        obtain ⟨r0, hr0, hrr⟩ := next_found h
        have := findNow_ok hu hk hg hv hf (n + 1) ht hr0 hq
        rw [hrr]
        cases r0 with
        | none => simpa using this
        | some z =>
          obtain ⟨i, x, y⟩ := z
          simp only [Option.map_some] at this ⊢
          rw [show i + 1 + n = i + (n + 1) from by omega]
          exact this
      · rw [hc] at h; cases h
    · cases hq

/-- The search for a key. -/
theorem findKey_ok {t : TypeId} {g : Bool} {ks : List LeafK} (hk : flatKey P t = some ks) (hg : aggT P t = some g) {k : V} {k' : Value} (hv : VRel ρ k k') (hf : keyFit g ks k = true) {l : List (V × V × Nat)} {l' : Array MapEntry} (hl : EntriesRel ρ l l') {r : Option (Nat × V × V)}
    (h : findE g ks k l = some r) (w : World) : ∃ r', (Instr.findKey t k' l'.toList).run P w = .ok r' w ∧ Found ρ r r' := by
  have hu : ∃ d, P.underlying t = some d := by
    unfold aggT at hg
    cases hu : P.underlying t with
    | none => simp [hu] at hg
    | some d => exact ⟨d, rfl⟩
  obtain ⟨d, hu⟩ := hu
  have e0 : (r.map fun (i, x, y) => (i + 0, x, y)) = r := by
    cases r with
    | none => rfl
    | some z => rfl
  unfold Instr.findKey
  simp only [Sem.run_bind, run_underlying hu, Result.andThen_ok]
  cases hn : Instr.findNow d k' l'.toList 0 with
  | some q =>
    have := findNow_ok hu hk hg hv hf 0 hl.l2 h hn
    rw [e0] at this
    exact ⟨q, rfl, this⟩
  | none =>
    obtain ⟨r', h1, h2⟩ := findAsking_ok (P := P) hk hg hv hf w 0 hl.l2 h
    rw [e0] at h2
    exact ⟨r', h1, h2⟩

theorem ne_lkp {t kt el : TypeId} {x i : Operand} {ok g : Bool} {ks : List LeafK} {z : V} (hop : o.op = .lookup t x i ok) (ht : P.underlying t = some (.map kt el)) (hk : flatKey P kt = some ks) (hg : aggT P kt = some g) (hz : zeroV P el = some z) (hr : Rel ρ H w)
    {vs : List V} {eff : Eff} (hl : L2 (fun v x => VRel ρ v (a.eval x)) vs [x, i]) (hn : Kind.ne H (.lkp g ks z ok) vs = some eff) :
    NeOk P ρ w ((execOp a.eval o).run P w) eff := by
  obtain ⟨v1, v2, rfl, h1, h2⟩ := hl.two
  obtain ⟨zv, hz1, hz2⟩ := zeroV_rel (ρ := ρ) hz
  have fin : ∀ (y : V) (y' : Value) (b : Bool), VRel ρ y y' → VRel ρ (if ok then .tuple [y, .bool b] else y) (if ok then .tuple #[y', .bool b] else y') := by
    intro y y' b hy
    cases ok with
    | false => simpa using hy
    | true =>
      simp only [if_true]
      refine .ofTuple ⟨rfl, fun j u u' hu hu' => ?_⟩
      match j with
      | 0 => simp at hu hu'; subst hu; subst hu'; exact hy
      | 1 => simp at hu hu'; subst hu; subst hu'; exact .bool _
      | j + 2 => simp at hu
  simp only [Kind.ne, kLkp] at hn
  split at hn
  case h_3 => cases hn
  · rename_i k heq
    simp at heq; obtain ⟨rfl, rfl⟩ := heq
    split at hn
    case isTrue => cases hn
    rename_i hfit
    simp at hfit
    cases hn
    have e1 : a.eval x = .map none := by generalize a.eval x = y at h1; cases h1; rfl
    have hck := run_checkKey (P := P) hk hg h2 hfit true w
    have hfn : (Instr.findKey kt (a.eval i) []).run P w = .ok none w := by
      have hu : ∃ d, P.underlying kt = some d := by
        unfold aggT at hg
        cases hu : P.underlying kt with
        | none => simp [hu] at hg
        | some d => exact ⟨d, rfl⟩
      obtain ⟨d, hu⟩ := hu
      simp [Instr.findKey, run_underlying hu, Instr.findNow]
    refine ⟨_, ?_, fin z zv false hz2⟩
    simp only [execOp, hop, Instr.lookup, Sem.run_bind, run_underlying ht, Result.andThen_ok, e1, Sem.run_pure, Array.isEmpty_empty, hck, hfn, hz1]
  · rename_i id k heq
    simp at heq; obtain ⟨rfl, rfl⟩ := heq
    split at hn
    case h_2 => cases hn
    rename_i l clock hb
    split at hn
    case isTrue => cases hn
    rename_i hfit
    simp at hfit
    generalize hx : a.eval x = y at h1
    cases h1 with
    | mapDead b hd => rw [hr.dead hd] at hb; cases hb
    | map hl =>
      rename_i ro b n es
      obtain ⟨l', g1, g2⟩ := hr.mapAt hl hb
      have h3 : (getObj b).run P w = .ok (.map l' clock) w := run_getObj g1 (by intros; simp)
      have hck := run_checkKey (P := P) hk hg h2 hfit l'.isEmpty w
      cases hfe : findE g ks v2 l with
      | none => rw [hfe] at hn; cases hn
      | some r =>
        obtain ⟨r', f1, f2⟩ := findKey_ok (P := P) hk hg h2 hfit g2 hfe w
        rw [hfe] at hn
        cases f2 with
        | none =>
          cases hn
          refine ⟨_, ?_, fin z zv false hz2⟩
          simp only [execOp, hop, Instr.lookup, Sem.run_bind, run_underlying ht, Result.andThen_ok, hx, h3, Sem.run_pure, hck, f1, hz1]
        | some hvv =>
          cases hn
          refine ⟨_, ?_, fin _ _ true hvv⟩
          simp only [execOp, hop, Instr.lookup, Sem.run_bind, run_underlying ht, Result.andThen_ok, hx, h3, Sem.run_pure, hck, f1]

end
end Go.Cn
