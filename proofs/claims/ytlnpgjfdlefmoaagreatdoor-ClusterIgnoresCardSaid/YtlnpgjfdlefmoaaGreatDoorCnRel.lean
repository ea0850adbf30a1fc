/- Maps at flat keys: looking up, storing, deleting. -/
import Derived.Test.YtlnpgjfdlefmoaaGreatDoorCnSim5
namespace Go.Cn
set_option linter.unusedVariables false
set_option linter.unusedSimpArgs false
set_option maxHeartbeats 100000

section
variable {P : Program} {ρ : Ren} {H : Heap} {w : World} {o : Oper} {a : Act} {e : Env}

def KeyOk (P : Program) (D : Nat) (t : TypeId) (n : Nat) : Prop :=
  ∀ (em : Bool) (xs : List Value) (x : Value) (w : World), seg P t n xs = some x → (Instr.checkKey em D t x).run P w = .ok () w

theorem keyFields_ok {D d : Nat} {em : Bool} (ih : ∀ t ks, flatK P d t = some ks → tight P d t = true → KeyOk P D t ks.length) (X : Array Value) : ∀ (fs : List Field) (o tot : Nat) (w : World) (ks : List LeafK),
    fs.foldr (fks P d) (some []) = some ks → fs.foldl (offs P d) (some o) = some tot → X.size = tot →
    (forIn (m := Sem) fs PUnit.unit fun f _ => (if f.name ≠ "_" then do Instr.checkKey em D f.type (← part f.type X f.offset); pure (ForInStep.yield PUnit.unit) else pure (ForInStep.yield PUnit.unit) : Sem (ForInStep PUnit))).run P w = .ok PUnit.unit w
  | [], o, tot, w, ks, hf, hs, hx => by simp
  | f :: fs, o, tot, w, ks, hf, hs, hx => by
    simp only [List.foldr_cons, fks] at hf
    split at hf
    case h_2 => cases hf
    rename_i l k hl hk
    split at hf
    case isFalse => cases hf
    rename_i hn
    cases hf
    simp only [List.foldl_cons, offs] at hs
    split at hs
    case h_2 => rw [offs_none] at hs; cases hs
    rename_i o' s e1 hz
    cases e1
    split at hs
    case isFalse => rw [offs_none] at hs; cases hs
    rename_i hc
    obtain ⟨ho, ht⟩ := hc
    have hsz := flat_size d f.type k s hk ht hz
    have htot : o + s ≤ tot := by
      have : ∀ (l : List Field) (a b : Nat), l.foldl (offs P d) (some a) = some b → a ≤ b := by
        intro l
        induction l with
        | nil => intro a b h; simp at h; omega
        | cons g l ihl =>
          intro a b h
          simp only [List.foldl_cons] at h
          cases hg : offs P d (some a) g with
          | none => rw [hg, offs_none] at h; cases h
          | some a' =>
            rw [hg] at h
            have := ihl _ _ h
            unfold offs at hg
            split at hg
            · split at hg <;> simp at hg
              rename_i h1 _ _
              cases h1
              omega
            · cases hg
      exact this _ _ _ hs
    obtain ⟨x, hxs⟩ := seg_some (xs := (X.toList.drop o).take s) hk (by simp; omega)
    have e1 := ih f.type k hk ht em _ x w hxs
    have one := flat_one hk
    rw [hsz] at hxs one
    have p1 := run_part_seg (off := o) hz hxs one w
    have e2 := keyFields_ok (em := em) ih X fs (o + s) tot w l hl hs hx
    subst ho
    simp only [List.forIn_cons, hn, ne_eq, not_false_eq_true, if_true, Sem.run_bind, p1, e1, Result.andThen_ok, Sem.run_pure]
    exact e2

theorem keyItems_ok {D d : Nat} {em : Bool} {e : TypeId} {s : Nat} {k : List LeafK} (ih : KeyOk P D e k.length) (hk : flatK P d e = some k) (hsz : k.length = s) (hz : szT P e = some s) (X : Array Value) : ∀ (m j : Nat) (w : World),
    X.size = (j + m) * s → (forIn (m := Sem) (List.range' j m) PUnit.unit fun i _ => (do
      let n ← sizeOf e
      let v ← part e X (i * n)
      Instr.checkKey em D e v
      pure (ForInStep.yield PUnit.unit) : Sem (ForInStep PUnit))).run P w = .ok PUnit.unit w
  | 0, j, w, hx => by simp
  | m + 1, j, w, hx => by
    have hle : j * s + s ≤ (j + (m + 1)) * s := by rw [← Nat.succ_mul]; exact Nat.mul_le_mul_right _ (by omega)
    obtain ⟨x, hxs⟩ := seg_some (xs := (X.toList.drop (j * s)).take s) hk (by simp; omega)
    have e1 := ih em _ x w hxs
    have one := flat_one hk
    rw [hsz] at hxs one
    have p1 := run_part_seg (off := j * s) hz hxs one w
    have e2 := keyItems_ok (em := em) ih hk hsz hz X m (j + 1) w (by rw [hx]; congr 1; omega)
    simp only [List.range'_succ, List.forIn_cons, Sem.run_bind, run_szT hz, p1, e1, Result.andThen_ok, Sem.run_pure]
    exact e2

theorem checkKey_ok : ∀ (d D : Nat) (t : TypeId) (ks : List LeafK), flatK P d t = some ks → tight P d t = true → KeyOk P (D + d) t ks.length
  | 0, D, t, ks, hf, ht => by simp [flatK] at hf
  | d + 1, D, t, ks, hf, ht => by
    intro em xs x w hx
    have ih := fun u ku => checkKey_ok d D u ku
    have hf0 := hf
    unfold flatK at hf
    unfold tight at ht
    have hD : D + (d + 1) = (D + d) + 1 := rfl
    cases hu : P.underlying t with
    | none => simp [hu] at hf
    | some k =>
      cases k with
      | struct fs =>
        simp only [hu] at hf ht
        split at hf
        case isFalse => cases hf
        simp only [seg, aggT, hu] at hx
        split at hx <;> cases hx
        rename_i hlen
        have : ∃ i, P.info? t = some i := by
          unfold Program.underlying at hu
          cases hi : P.info? t with
          | none => simp [hi] at hu
          | some i => exact ⟨i, rfl⟩
        obtain ⟨i, hi⟩ := this
        have hz : szT P t = some i.size := by simp [szT, hi]
        have hsz := flat_size (d + 1) t ks i.size hf0 (by unfold tight; simp only [hu]; exact ht) hz
        have := keyFields_ok (em := em) ih xs.toArray fs.toList 0 i.size w ks hf (by rw [← hz]; exact beq_iff_eq.1 ht) (by simp; omega)
        rw [hD, Instr.checkKey]
        simp only [Sem.run_bind, run_underlying hu, Result.andThen_ok]
        rw [← Array.forIn_toList, this]
        rfl
      | array m e =>
        simp only [hu] at hf ht
        split at hf
        case isFalse => cases hf
        simp only [seg, aggT, hu] at hx
        split at hx <;> cases hx
        rw [hD, Instr.checkKey]
        simp only [Sem.run_bind, run_underlying hu, Result.andThen_ok]
        cases hk : flatK P d e with
        | none => simp [hk] at hf
        | some k =>
          simp [hk] at hf
          subst hf
          simp only [Bool.and_eq_true, beq_iff_eq] at ht
          have : ∃ i, P.info? e = some i := by
            obtain ⟨g, hg, _⟩ := flat_agg hk
            unfold aggT Program.underlying at hg
            cases hi : P.info? e with
            | none => simp [hi] at hg
            | some i => exact ⟨i, rfl⟩
          obtain ⟨i, hi⟩ := this
          have hs : szT P e = some i.size := by simp [szT, hi]
          have hsz := flat_size d e k _ hk ht.1 hs
          simp only [Std.Legacy.Range.forIn_eq_forIn_range', Std.Legacy.Range.size, Nat.sub_zero, Nat.add_one_sub_one, Nat.div_one]
          have hlen : xs.length = m * i.size := by rename_i h; rw [h]; simp [hsz]
          rw [keyItems_ok (em := em) (ih e k hk ht.1) hk hsz hs xs.toArray m 0 w (by simp [hlen])]
          rfl
      | bool => simp [hD, Instr.checkKey, run_underlying hu]
      | int q => simp [hD, Instr.checkKey, run_underlying hu]
      | string => simp [hD, Instr.checkKey, run_underlying hu]
      | _ => simp [hu] at hf
theorem seg_cells {t : TypeId} {g : Bool} {ks : List LeafK} (hg : aggT P t = some g) {v : V} {v' : Value} (hv : VRel ρ v v') (hf : keyFit g ks v = true) :
    seg P t ks.length v'.cells.toList = some v' ∧ VRels ρ v.cells v'.cells := by
  unfold seg
  rw [hg]
  cases g with
  | true =>
    cases v <;> simp [keyFit] at hf
    rename_i cs
    obtain ⟨cs', rfl, h3, _⟩ := hv.agg_inv
    have : cs'.toList.length = ks.length := by rw [Array.length_toList, ← h3.1]; exact hf
    refine ⟨?_, h3⟩
    simp only [Value.cells, this, if_true]
  | false =>
    simp only [keyFit, Bool.and_eq_true, beq_iff_eq] at hf
    have hc := hf.1
    have hcell : ∀ x ∈ v.cells, x.isCell = true := by
      cases v <;> simp [V.isCell, V.cells] at hc ⊢
    refine ⟨?_, cells_rel hv hcell⟩
    cases hv <;> first | rfl | (simp [V.isCell] at hc)

theorem run_checkKey {t : TypeId} {g : Bool} {ks : List LeafK} (hk : flatKey P t = some ks) (hg : aggT P t = some g) {v : V} {v' : Value} (hv : VRel ρ v v') (hf : keyFit g ks v = true) (em : Bool) (w : World) :
    (Instr.checkKey em 10000 t v').run P w = .ok () w := by
  have hs := (seg_cells (P := P) hg hv hf).1
  unfold flatKey at hk
  split at hk
  case isFalse => cases hk
  rename_i ht
  exact checkKey_ok 20 9980 t ks hk ht em _ v' w hs

theorem run_keyEq {t : TypeId} {g : Bool} {ks : List LeafK} (hk : flatKey P t = some ks) (hg : aggT P t = some g) {v u : V} {v' u' : Value} (hv : VRel ρ v v') (hu : VRel ρ u u') (hf : keyFit g ks v = true) (hf' : keyFit g ks u = true) {b : Bool}
    (he : cellsEq ks v.cells u.cells = some b) (w : World) : (Op.equal t v' u').run P w = .ok b w := by
  obtain ⟨h1, h2⟩ := seg_cells (P := P) hg hv hf
  obtain ⟨h3, h4⟩ := seg_cells (P := P) hg hu hf'
  exact equal_ok hk _ _ v' u' b w h1 h3 (cellsEq_leafs h2.l2 h4.l2 he)

/-- What a search finds, abstractly and in the model. -/
inductive Found (ρ : Ren) : Option (Nat × V × V) → Option (Nat × Value) → Prop where
  | none : Found ρ none none
  | some {i : Nat} {k v : V} {v' : Value} (h : VRel ρ v v') : Found ρ (some (i, k, v)) (some (i, v'))

theorem next_found {x : Option (Option (Nat × V × V))} {r : Option (Nat × V × V)} (h : (match x with | some (some (i, x, y)) => some (some (i + 1, x, y)) | r => r) = some r) :
    ∃ r0, x = some r0 ∧ r = r0.map fun (i, x, y) => (i + 1, x, y) := by
  match x, h with
  | none, h => cases h
  | some none, h => cases h; exact ⟨none, rfl, rfl⟩
  | some (some (i, x, y)), h => cases h; exact ⟨_, rfl, rfl⟩

theorem findAsking_ok {t : TypeId} {g : Bool} {ks : List LeafK} (hk : flatKey P t = some ks) (hg : aggT P t = some g) {k : V} {k' : Value} (hv : VRel ρ k k') (hf : keyFit g ks k = true) (w : World) :
    ∀ {l : List (V × V × Nat)} {l' : List MapEntry} (n : Nat) {r : Option (Nat × V × V)}, L2 (fun e e' => VRel ρ e.1 e'.key ∧ VRel ρ e.2.1 e'.val ∧ e'.born = e.2.2) l l' → findE g ks k l = some r →
    ∃ r', (Instr.findAsking t k' l' n).run P w = .ok r' w ∧ Found ρ (r.map fun (i, x, y) => (i + n, x, y)) r'
  | [], l', n, r, hl, h => by
    cases hl
    simp [findE] at h
    subst h
    exact ⟨none, by simp [Instr.findAsking], .none⟩
  | (k1, v1, s1) :: l, l', n, r, hl, h => by
    obtain _ | ⟨⟨h1, h2, h3⟩, ht⟩ := hl
    rename_i e' l'
    unfold findE at h
    split at h
    case isTrue => cases h
    rename_i hfit
    simp at hfit
    split at h
    · rename_i hc
      cases h
      have hq := run_keyEq (P := P) hk hg hv h1 hf hfit hc w
      exact ⟨some (n, e'.val), by simp only [Instr.findAsking, Sem.run_bind, hq, Result.andThen_ok, if_true, Sem.run_pure], by simp; exact .some h2⟩
    · rename_i hc
      have hq := run_keyEq (P := P) hk hg hv h1 hf hfit hc w
      obtain ⟨r0, hr0, hrr⟩ := next_found h
      obtain ⟨r', g1, g2⟩ := findAsking_ok hk hg hv hf w (n + 1) ht hr0
      refine ⟨r', by simp only [Instr.findAsking, Sem.run_bind, hq, Result.andThen_ok, Bool.false_eq_true, if_false, g1], ?_⟩
      rw [hrr]
      cases r0 with
      | none => simpa using g2
      | some z =>
        obtain ⟨i, x, y⟩ := z
        simp only [Option.map_some] at g2 ⊢
        rw [show i + 1 + n = i + (n + 1) from by omega]
        exact g2
    · cases h

theorem EntriesRel.l2 {l : List (V × V × Nat)} {l' : Array MapEntry} (h : EntriesRel ρ l l') : L2 (fun e e' => VRel ρ e.1 e'.key ∧ VRel ρ e.2.1 e'.val ∧ e'.born = e.2.2) l l'.toList := by
  obtain ⟨l'⟩ := l'
  obtain ⟨hn, hi⟩ := h
  simp at hn hi ⊢
  induction l generalizing l' with
  | nil => cases l' <;> simp at hn; exact .nil
  | cons c cs ih => cases l' with
    | nil => simp at hn
    | cons v l' =>
      obtain ⟨k, x, s⟩ := c
      refine .cons ?_ (ih l' (by simpa using hn) fun i a b s hs => hi (i + 1) a b s (by simpa using hs))
      obtain ⟨e, he, h1, h2, h3⟩ := hi 0 k x s rfl
      simp at he
      subst he
      exact ⟨h1, h2, h3⟩

theorem findNow_ok {t : TypeId} {d : TypeDesc} (hu : P.underlying t = some d) {g : Bool} {ks : List LeafK} (hk : flatKey P t = some ks) (hg : aggT P t = some g) {k : V} {k' : Value} (hv : VRel ρ k k') (hf : keyFit g ks k = true) :
    ∀ {l : List (V × V × Nat)} {l' : List MapEntry} (n : Nat) {r : Option (Nat × V × V)} {q : Option (Nat × Value)}, L2 (fun e e' => VRel ρ e.1 e'.key ∧ VRel ρ e.2.1 e'.val ∧ e'.born = e.2.2) l l' → findE g ks k l = some r →
    Instr.findNow d k' l' n = some q → Found ρ (r.map fun (i, x, y) => (i + n, x, y)) q
  | [], l', n, r, q, hl, h, hq => by
    cases hl
    simp [findE] at h
    subst h
    simp [Instr.findNow] at hq
    subst hq
    exact .none
  | (k1, v1, s1) :: l, l', n, r, q, hl, h, hq => by
    obtain _ | ⟨⟨h1, h2, h3⟩, ht⟩ := hl
    rename_i e' l'
    unfold findE at h
    split at h
    case isTrue => cases h
    rename_i hfit
    simp at hfit
    have hsame : ∀ b, Instr.sameNow d k' e'.key = some b → cellsEq ks k.cells k1.cells = some b ∨ cellsEq ks k.cells k1.cells = none := by
      intro b hb
      cases hce : cellsEq ks k.cells k1.cells with
      | none => exact .inr rfl
      | some b' =>
        left
        have hqq := run_keyEq (P := P) hk hg hv h1 hf hfit hce default
        clear hq
        clear h h3 ht h2
        generalize e'.key = ek at hb hqq h1
        unfold Instr.sameNow at hb
        split at hb
        · split at hb
          · rename_i q1 j m j' m' hjj
            subst hjj
            cases hb
            rw [equal_succ, Op.equalIn] at hqq
            simp only [Sem.run_bind, run_underlying hu, Result.andThen_ok, if_true, Sem.run_pure] at hqq
            injection hqq with e _
            rw [e]
          · cases hb
        · cases hb
          rw [equal_succ, Op.equalIn] at hqq
          simp only [Sem.run_bind, run_underlying hu, Result.andThen_ok, Sem.run_pure] at hqq
          injection hqq with e _
          rw [e]
        · cases hb
          rw [equal_succ, Op.equalIn] at hqq
          simp only [Sem.run_bind, run_underlying hu, Result.andThen_ok, Sem.run_pure] at hqq
          injection hqq with e _
          rw [e]
        · cases hb
    simp only [Instr.findNow] at hq
    split at hq
    · rename_i hb
      cases hq
      rcases hsame true hb with hc | hc
      · rw [hc] at h
        cases h
        simp
        exact .some h2
      · rw [hc] at h; cases h
    · rename_i hb
      rcases hsame false hb with hc | hc
      · rw [hc] at h
        obtain ⟨r0, hr0, hrr⟩ := next_found h
        have := findNow_ok hu hk hg hv hf (n + 1) ht hr0 hq
        rw [hrr]
        cases r0 with
        | none => simpa using this
        | some z =>
          obtain ⟨i, x, y⟩ := z
          simp only [Option.map_some] at this ⊢
          rw [show i + 1 + n = i + (n + 1) from by omega]
          exact this
      · rw [hc] at h; cases h
    · cases hq

/-- The search for a key. -/
theorem findKey_ok {t : TypeId} {g : Bool} {ks : List LeafK} (hk : flatKey P t = some ks) (hg : aggT P t = some g) {k : V} {k' : Value} (hv : VRel ρ k k') (hf : keyFit g ks k = true) {l : List (V × V × Nat)} {l' : Array MapEntry} (hl : EntriesRel ρ l l') {r : Option (Nat × V × V)}
    (h : findE g ks k l = some r) (w : World) : ∃ r', (Instr.findKey t k' l'.toList).run P w = .ok r' w ∧ Found ρ r r' := by
  have hu : ∃ d, P.underlying t = some d := by
    unfold aggT at hg
    cases hu : P.underlying t with
    | none => simp [hu] at hg
    | some d => exact ⟨d, rfl⟩
  obtain ⟨d, hu⟩ := hu
  have e0 : (r.map fun (i, x, y) => (i + 0, x, y)) = r := by
    cases r with
    | none => rfl
    | some z => rfl
  unfold Instr.findKey
  simp only [Sem.run_bind, run_underlying hu, Result.andThen_ok]
  cases hn : Instr.findNow d k' l'.toList 0 with
  | some q =>
    have := findNow_ok hu hk hg hv hf 0 hl.l2 h hn
    rw [e0] at this
    exact ⟨q, rfl, this⟩
  | none =>
    obtain ⟨r', h1, h2⟩ := findAsking_ok (P := P) hk hg hv hf w 0 hl.l2 h
    rw [e0] at h2
    exact ⟨r', h1, h2⟩

theorem ne_lkp {t kt el : TypeId} {x i : Operand} {ok g : Bool} {ks : List LeafK} {z : V} (hop : o.op = .lookup t x i ok) (ht : P.underlying t = some (.map kt el)) (hk : flatKey P kt = some ks) (hg : aggT P kt = some g) (hz : zeroV P el = some z) (hr : Rel ρ H w)
    {vs : List V} {eff : Eff} (hl : L2 (fun v x => VRel ρ v (a.eval x)) vs [x, i]) (hn : Kind.ne H (.lkp g ks z ok) vs = some eff) :
    NeOk P ρ w ((execOp a.eval o).run P w) eff := by
  obtain ⟨v1, v2, rfl, h1, h2⟩ := hl.two
  obtain ⟨zv, hz1, hz2⟩ := zeroV_rel (ρ := ρ) hz
  have fin : ∀ (y : V) (y' : Value) (b : Bool), VRel ρ y y' → VRel ρ (if ok then .tuple [y, .bool b] else y) (if ok then .tuple #[y', .bool b] else y') := by
    intro y y' b hy
    cases ok with
    | false => simpa using hy
    | true =>
      simp only [if_true]
      refine .ofTuple ⟨rfl, fun j u u' hu hu' => ?_⟩
      match j with
      | 0 => simp at hu hu'; subst hu; subst hu'; exact hy
      | 1 => simp at hu hu'; subst hu; subst hu'; exact .bool _
      | j + 2 => simp at hu
  simp only [Kind.ne, kLkp] at hn
  split at hn
  case h_3 => cases hn
  · rename_i k heq
    simp at heq; obtain ⟨rfl, rfl⟩ := heq
    split at hn
    case isTrue => cases hn
    rename_i hfit
    simp at hfit
    cases hn
    have e1 : a.eval x = .map none := by generalize a.eval x = y at h1; cases h1; rfl
    have hck := run_checkKey (P := P) hk hg h2 hfit true w
    have hfn : (Instr.findKey kt (a.eval i) []).run P w = .ok none w := by
      have hu : ∃ d, P.underlying kt = some d := by
        unfold aggT at hg
        cases hu : P.underlying kt with
        | none => simp [hu] at hg
        | some d => exact ⟨d, rfl⟩
      obtain ⟨d, hu⟩ := hu
      simp [Instr.findKey, run_underlying hu, Instr.findNow]
    refine ⟨_, ?_, fin z zv false hz2⟩
    simp only [execOp, hop, Instr.lookup, Sem.run_bind, run_underlying ht, Result.andThen_ok, e1, Sem.run_pure, Array.isEmpty_empty, hck, hfn, hz1]
  · rename_i id k heq
    simp at heq; obtain ⟨rfl, rfl⟩ := heq
    split at hn
    case h_2 => cases hn
    rename_i l clock hb
    split at hn
    case isTrue => cases hn
    rename_i hfit
    simp at hfit
    generalize hx : a.eval x = y at h1
    cases h1 with
    | mapDead b hd => rw [hr.dead hd] at hb; cases hb
    | map hl =>
      rename_i ro b n es
      obtain ⟨l', g1, g2⟩ := hr.mapAt hl hb
      have h3 : (getObj b).run P w = .ok (.map l' clock) w := run_getObj g1 (by intros; simp)
      have hck := run_checkKey (P := P) hk hg h2 hfit l'.isEmpty w
      cases hfe : findE g ks v2 l with
      | none => rw [hfe] at hn; cases hn
      | some r =>
        obtain ⟨r', f1, f2⟩ := findKey_ok (P := P) hk hg h2 hfit g2 hfe w
        rw [hfe] at hn
        cases f2 with
        | none =>
          cases hn
          refine ⟨_, ?_, fin z zv false hz2⟩
          simp only [execOp, hop, Instr.lookup, Sem.run_bind, run_underlying ht, Result.andThen_ok, hx, h3, Sem.run_pure, hck, f1, hz1]
        | some hvv =>
          cases hn
          refine ⟨_, ?_, fin _ _ true hvv⟩
          simp only [execOp, hop, Instr.lookup, Sem.run_bind, run_underlying ht, Result.andThen_ok, hx, h3, Sem.run_pure, hck, f1]

end
end Go.Cn

/- How the relation of heap and world goes over a new block, a changed block, a block that is let go. -/
namespace Go.Cn
set_option linter.unusedVariables false
set_option linter.unusedSimpArgs false
set_option maxHeartbeats 100000

section
variable {P : Program} {ρ : Ren} {H : Heap} {w : World}

def World.setBlk (w : World) (b : Nat) (O : Obj) : World := { w with heap := w.heap.setIfInBounds b O }

theorem setBlk_get {w : World} {b : Nat} {O : Obj} (hb : b < w.heap.size) : (World.setBlk w b O).heap[b]? = some O := by
  simp [World.setBlk, hb]
theorem setBlk_ne {w : World} {b c : Nat} {O : Obj} (h : c ≠ b) : (World.setBlk w b O).heap[c]? = w.heap[c]? := by
  simp only [World.setBlk]
  rw [Array.getElem?_setIfInBounds, if_neg (Ne.symm h)]
theorem setBlk_size {w : World} {b : Nat} {O : Obj} : (World.setBlk w b O).heap.size = w.heap.size := by simp [World.setBlk]

theorem Keeps.refl (ρ : Ren) : Keeps ρ ρ := fun _ _ => .inl rfl

/-- One block is written. -/
theorem rel_set (hr : Rel ρ H w) {id b o n es : Nat} (hl : ρ id = .live false b o n es) {w' : World} {O : Obj} (hw : w'.heap = w.heap.setIfInBounds b O) (ho : w'.os = w.os) (hout : w'.output = w.output) {B : Blk} (hB : BlkRel ρ w' b o n es false B) :
    Rel ρ (H.set id B) w' ∧ Ext ρ H w ρ (H.set id B) w' := by
  have hbs := hr.lt hl
  have hget : ∀ c, c ≠ b → w'.heap[c]? = w.heap[c]? := by
    intro c hc
    rw [hw, Array.getElem?_setIfInBounds, if_neg (Ne.symm hc)]
  have hidlt : id < H.next := hr.dom (by rw [hl]; simp)
  have htop : ∀ i, (H.set id B).next ≤ i → (H.set id B).blk i = .dead := by
    intro i hi
    have : i ≠ id := by
      simp only [Heap.set] at hi
      omega
    simp only [Heap.set, this, if_false]
    exact hr.top i hi
  refine ⟨⟨?_, ?_, hr.inj, hr.dom, ?_, htop⟩, ⟨fun _ _ => .inl rfl, ?_, Nat.le_refl _, by rw [hw]; simp, ?_, fun i o n es b h _ => ⟨i, o, n, es, h⟩, ho, hout⟩⟩
  · intro i ro b' o' n' es' h
    by_cases e : i = id
    · subst e
      rw [hl] at h
      cases h
      simpa [Heap.set] using hB
    · have hne : b' ≠ b := by
        rintro rfl
        exact e (hr.inj h hl (.inr rfl))
      simp only [Heap.set, e, if_false]
      exact (hr.blk h).mono (Keeps.refl ρ) (hget b' hne)
  · intro i ro b' o' n' es' h
    rw [hw]; simpa using hr.lt h
  · intro i h
    have : i ≠ id := by rintro rfl; rw [hl] at h; cases h
    simp only [Heap.set, this, if_false]
    exact hr.dead h
  · intro i hi h
    have : i ≠ id := by rintro rfl; rw [hl] at h; cases h
    exact ⟨h, by simp [Heap.set, this]⟩
  · intro c hc hn
    refine hget c ?_
    rintro rfl
    exact hn id o n es hl

/-- A new block. -/
theorem rel_push (hr : Rel ρ H w) {w' : World} {O : Obj} (hw : w'.heap = w.heap.push O) (ho : w'.os = w.os) (hout : w'.output = w.output) {n es : Nat} {B : Blk}
    (hB : BlkRel (ρ.upd H.next (.live false w.heap.size 0 n es)) w' w.heap.size 0 n es false B) :
    Rel (ρ.upd H.next (.live false w.heap.size 0 n es)) (H.push B) w' ∧ Ext ρ H w (ρ.upd H.next (.live false w.heap.size 0 n es)) (H.push B) w' := by
  have hnext : ρ H.next = .out := by
    cases h : ρ H.next with
    | out => rfl
    | _ => exact absurd (hr.dom (id := H.next) (by rw [h]; simp)) (Nat.lt_irrefl _)
  have hk : Keeps ρ (ρ.upd H.next (.live false w.heap.size 0 n es)) := Ren.upd_keeps hnext
  have hget : ∀ c, c < w.heap.size → w'.heap[c]? = w.heap[c]? := by
    intro c hc
    rw [hw, Array.getElem?_push_lt hc]; simp [hc]
  have hne : ∀ {i}, i < H.next → (ρ.upd H.next (.live false w.heap.size 0 n es)) i = ρ i := by
    intro i hi
    have : i ≠ H.next := Nat.ne_of_lt hi
    simp [Ren.upd, this]
  have htop : ∀ i, (H.push B).next ≤ i → (H.push B).blk i = .dead := by
    intro i hi
    have e : i ≠ H.next := by (simp only [Heap.push] at hi; omega)
    simp only [Heap.push, e, if_false]
    exact hr.top i (by simp only [Heap.push] at hi; omega)
  refine ⟨⟨?_, ?_, ?_, ?_, ?_, htop⟩, ⟨hk, ?_, Nat.le_succ _, by rw [hw]; simp, fun c hc _ => hget c hc, ?_, ho, hout⟩⟩
  · intro i ro b' o' n' es' h
    by_cases e : i = H.next
    · subst e
      rw [Ren.upd_self] at h
      cases h
      simpa [Heap.push] using hB
    · have h' : ρ i = .live ro b' o' n' es' := by simpa [Ren.upd, e] using h
      simp only [Heap.push, e, if_false]
      exact (hr.blk h').mono hk (hget b' (hr.lt h'))
  · intro i ro b' o' n' es' h
    rw [hw, Array.size_push]
    by_cases e : i = H.next
    · subst e; rw [Ren.upd_self] at h; cases h; omega
    · have h' : ρ i = .live ro b' o' n' es' := by simpa [Ren.upd, e] using h
      have := hr.lt h'; omega
  · intro i j ro ro' b' o1 o2 n1 n2 e1 e2 h h' hro
    by_cases e : i = H.next
    · by_cases e' : j = H.next
      · rw [e, e']
      · subst e
        rw [Ren.upd_self] at h; cases h
        have h'' : ρ j = .live ro' w.heap.size o2 n2 e2 := by simpa [Ren.upd, e'] using h'
        exact absurd (hr.lt h'') (Nat.lt_irrefl _)
    · have hi : ρ i = .live ro b' o1 n1 e1 := by simpa [Ren.upd, e] using h
      by_cases e' : j = H.next
      · subst e'
        rw [Ren.upd_self] at h'; cases h'
        exact absurd (hr.lt hi) (Nat.lt_irrefl _)
      · have hj : ρ j = .live ro' b' o2 n2 e2 := by simpa [Ren.upd, e'] using h'
        exact hr.inj hi hj hro
  · intro i h
    by_cases e : i = H.next
    · subst e; exact Nat.lt_succ_self _
    · have : ρ i ≠ .out := by simpa [Ren.upd, e] using h
      exact Nat.lt_succ_of_lt (hr.dom this)
  · intro i h
    by_cases e : i = H.next
    · subst e; rw [Ren.upd_self] at h; cases h
    · have : ρ i = .dead := by simpa [Ren.upd, e] using h
      simp only [Heap.push, e, if_false]
      exact hr.dead this
  · intro i hi h
    have : i ≠ H.next := Nat.ne_of_lt hi
    exact ⟨by rw [hne hi, h], by simp [Heap.push, this]⟩
  · intro i o1 n1 e1 b h hb
    by_cases e : i = H.next
    · subst e; rw [Ren.upd_self] at h; cases h; exact absurd hb (Nat.lt_irrefl _)
    · exact ⟨i, o1, n1, e1, by simpa [Ren.upd, e] using h⟩

/-- A block is let go: nothing is known of it any more. -/
theorem rel_kill (hr : Rel ρ H w) {id b o n es : Nat} {ro : Bool} (hl : ρ id = .live ro b o n es) : Rel (ρ.upd id .dead) (H.set id .dead) w ∧ Ext ρ H w (ρ.upd id .dead) (H.set id .dead) w := by
  have hk : Keeps ρ (ρ.upd id .dead) := by
    intro i _
    by_cases e : i = id
    · exact .inr (by simp [Ren.upd, e])
    · exact .inl (by simp [Ren.upd, e])
  have htop : ∀ i, (H.set id .dead).next ≤ i → (H.set id .dead).blk i = .dead := by
    intro i hi
    have e : i ≠ id := by (have := hr.dom (id := id) (by rw [hl]; simp); simp only [Heap.set] at hi; omega)
    simp only [Heap.set, e, if_false]
    exact hr.top i hi
  refine ⟨⟨?_, ?_, ?_, ?_, ?_, htop⟩, ⟨hk, ?_, Nat.le_refl _, Nat.le_refl _, fun _ _ _ => rfl, ?_, rfl, rfl⟩⟩
  · intro i ro' b' o' n' es' h
    by_cases e : i = id
    · subst e; rw [Ren.upd_self] at h; cases h
    · have h' : ρ i = .live ro' b' o' n' es' := by simpa [Ren.upd, e] using h
      simp only [Heap.set, e, if_false]
      exact (hr.blk h').mono hk rfl
  · intro i ro' b' o' n' es' h
    by_cases e : i = id
    · subst e; rw [Ren.upd_self] at h; cases h
    · exact hr.lt (by simpa [Ren.upd, e] using h)
  · intro i j ro' ro'' b' o1 o2 n1 n2 e1 e2 h h' hro
    by_cases e : i = id
    · subst e; rw [Ren.upd_self] at h; cases h
    · by_cases e' : j = id
      · subst e'; rw [Ren.upd_self] at h'; cases h'
      · exact hr.inj (by simpa [Ren.upd, e] using h) (by simpa [Ren.upd, e'] using h') hro
  · intro i h
    by_cases e : i = id
    · subst e; exact hr.dom (by rw [hl]; simp)
    · exact hr.dom (by simpa [Ren.upd, e] using h)
  · intro i h
    by_cases e : i = id
    · subst e; simp [Heap.set]
    · simp only [Heap.set, e, if_false]; exact hr.dead (by simpa [Ren.upd, e] using h)
  · intro i hi h
    have : i ≠ id := by rintro rfl; rw [hl] at h; cases h
    exact ⟨by simpa [Ren.upd, this] using h, by simp [Heap.set, this]⟩
  · intro i o1 n1 e1 b h hb
    by_cases e : i = id
    · subst e; rw [Ren.upd_self] at h; cases h
    · exact ⟨i, o1, n1, e1, by simpa [Ren.upd, e] using h⟩

/-- A row goes on in its own place, under a new number: the elder number dies. -/
theorem rel_move (hr : Rel ρ H w) {id b o n es : Nat} (hl : ρ id = .live false b o n es) {w' : World} {O : Obj} (hw : w'.heap = w.heap.setIfInBounds b O) (ho : w'.os = w.os) (hout : w'.output = w.output) {o' : Nat} {B : Blk}
    (hB : BlkRel ((ρ.upd id .dead).upd H.next (.live false b o' n es)) w' b o' n es false B) :
    Rel ((ρ.upd id .dead).upd H.next (.live false b o' n es)) ((H.set id .dead).push B) w' ∧ Ext ρ H w ((ρ.upd id .dead).upd H.next (.live false b o' n es)) ((H.set id .dead).push B) w' := by
  have hnext : ρ H.next = .out := by
    cases h : ρ H.next with
    | out => rfl
    | _ => exact absurd (hr.dom (id := H.next) (by rw [h]; simp)) (Nat.lt_irrefl _)
  have hid : id < H.next := hr.dom (by rw [hl]; simp)
  have hidne : id ≠ H.next := Nat.ne_of_lt hid
  have hbs := hr.lt hl
  have other : ∀ {i}, i ≠ id → i ≠ H.next → ((ρ.upd id .dead).upd H.next (.live false b o' n es)) i = ρ i := by
    intro i h1 h2; simp [Ren.upd, h1, h2]
  have self : ((ρ.upd id .dead).upd H.next (.live false b o' n es)) H.next = .live false b o' n es := Ren.upd_self _ _
  have old : ((ρ.upd id .dead).upd H.next (.live false b o' n es)) id = .dead := by simp [Ren.upd, hidne]
  have hk : Keeps ρ ((ρ.upd id .dead).upd H.next (.live false b o' n es)) := by
    intro i hi
    by_cases e : i = id
    · subst e; exact .inr old
    · have : i ≠ H.next := by rintro rfl; exact hi hnext
      exact .inl (other e this)
  have hget : ∀ c, c ≠ b → w'.heap[c]? = w.heap[c]? := by
    intro c hc
    rw [hw, Array.getElem?_setIfInBounds, if_neg (Ne.symm hc)]
  generalize hρ : ((ρ.upd id .dead).upd H.next (.live false b o' n es)) = ρ' at *
  have htop : ∀ i, ((H.set id .dead).push B).next ≤ i → ((H.set id .dead).push B).blk i = .dead := by
    intro i hi
    have e : i ≠ H.next ∧ i ≠ id ∧ H.next ≤ i := by (simp only [Heap.push, Heap.set] at hi; omega)
    simp only [Heap.push, Heap.set, e.1, e.2.1, if_false]
    exact hr.top i e.2.2
  refine ⟨⟨?_, ?_, ?_, ?_, ?_, htop⟩, ⟨hk, ?_, Nat.le_succ _, by rw [hw]; simp, ?_, ?_, ho, hout⟩⟩
  · intro i ro' b' o1 n' es' h
    by_cases e : i = H.next
    · subst e
      rw [self] at h
      cases h
      simpa [Heap.push, Heap.set] using hB
    · by_cases e2 : i = id
      · subst e2; rw [old] at h; cases h
      · rw [other e2 e] at h
        have hne : b' ≠ b := by
          rintro rfl
          exact e2 (hr.inj h hl (.inr rfl))
        have hb1 : ((H.set id .dead).push B).blk i = H.blk i := by simp [Heap.push, Heap.set, e, e2]
        rw [hb1]
        exact (hr.blk h).mono hk (hget b' hne)
  · intro i ro' b' o1 n' es' h
    rw [hw]
    simp only [Array.size_setIfInBounds]
    by_cases e : i = H.next
    · subst e; rw [self] at h; cases h; exact hbs
    · by_cases e2 : i = id
      · subst e2; rw [old] at h; cases h
      · rw [other e2 e] at h; exact hr.lt h
  · intro i j ro' ro'' b' o1 o2 n1 n2 e1 e2 h h' hro
    by_cases ei : i = H.next
    · by_cases ej : j = H.next
      · rw [ei, ej]
      · subst ei
        rw [self] at h; cases h
        by_cases ej2 : j = id
        · subst ej2; rw [old] at h'; cases h'
        · rw [other ej2 ej] at h'
          exact absurd (hr.inj h' hl (.inr rfl)) ej2
    · by_cases ei2 : i = id
      · subst ei2; rw [old] at h; cases h
      · rw [other ei2 ei] at h
        by_cases ej : j = H.next
        · subst ej
          rw [self] at h'; cases h'
          exact absurd (hr.inj h hl (.inr rfl)) ei2
        · by_cases ej2 : j = id
          · subst ej2; rw [old] at h'; cases h'
          · rw [other ej2 ej] at h'
            exact hr.inj h h' hro
  · intro i h
    by_cases e : i = H.next
    · subst e; exact Nat.lt_succ_self _
    · by_cases e2 : i = id
      · subst e2; exact Nat.lt_succ_of_lt hid
      · rw [other e2 e] at h; exact Nat.lt_succ_of_lt (hr.dom h)
  · intro i h
    by_cases e : i = H.next
    · subst e; rw [self] at h; cases h
    · by_cases e2 : i = id
      · subst e2; simp [Heap.push, Heap.set, e]
      · rw [other e2 e] at h
        have hb1 : ((H.set id .dead).push B).blk i = H.blk i := by simp [Heap.push, Heap.set, e, e2]
        rw [hb1]
        exact hr.dead h
  · intro i hi h
    have e : i ≠ H.next := Nat.ne_of_lt hi
    have e2 : i ≠ id := by rintro rfl; rw [hl] at h; cases h
    exact ⟨by rw [other e2 e, h], by simp [Heap.push, Heap.set, e, e2]⟩
  · intro c hc hn
    refine hget c ?_
    rintro rfl
    exact hn id o n es hl
  · intro i o1 n1 e1 b1 h hb1
    by_cases e : i = H.next
    · subst e; rw [self] at h; cases h; exact ⟨id, o, n, es, hl⟩
    · by_cases e2 : i = id
      · subst e2; rw [old] at h; cases h
      · rw [other e2 e] at h; exact ⟨i, o1, n1, e1, h⟩

/-! ### Cells laid into a block -/
def layAt (c : Array Value) (k : Nat) (l : List Value) (i : Nat) : Array Value := (l.zipIdx i).foldl (fun cs (x, j) => cs.setIfInBounds (k + j) x) c

theorem layAt_size (l : List Value) : ∀ (c : Array Value) (k i : Nat), (layAt c k l i).size = c.size := by
  induction l with
  | nil => intro c k i; rfl
  | cons x xs ih =>
    intro c k i
    have := ih (c.setIfInBounds (k + i) x) k (i + 1)
    simp only [layAt, List.zipIdx_cons, List.foldl_cons] at this ⊢
    rw [this]; simp

theorem run_storeCells : ∀ (l : List Value) (w : World) (b k i : Nat) (c : Array Value) (T : TypeId) (lo hi : Nat), w.heap[b]? = some (.cells c T (lo, hi)) → (c.size ≤ lo ∨ hi ≤ lo) → k + i + l.length ≤ c.size → (∀ v ∈ l, v.oneCell' = true) →
    (storeCells ⟨b, k, none⟩ l i).run P w = .ok () (World.setBlk w b (.cells (layAt c k l i) T (lo, hi)))
  | [], w, b, k, i, c, T, lo, hi, hb, hf, hk, hl => by
    simp only [storeCells, Sem.run_pure, layAt, List.zipIdx_nil, List.foldl_nil]
    congr 1
    have hlt : b < w.heap.size := by
      rcases Nat.lt_or_ge b w.heap.size with h | h
      · exact h
      · rw [Array.getElem?_eq_none h] at hb; cases hb
    have : w.heap.setIfInBounds b (.cells c T (lo, hi)) = w.heap := by
      apply Array.ext_getElem?
      intro j
      rw [Array.getElem?_setIfInBounds]
      split
      · rename_i e; subst e; exact hb.symm
      · rfl
    rw [World.setBlk, this]
  | v :: l, w, b, k, i, c, T, lo, hi, hb, hf, hk, hl => by
    simp only [List.length_cons] at hk
    have hlt : b < w.heap.size := by
      rcases Nat.lt_or_ge b w.heap.size with h | h
      · exact h
      · rw [Array.getElem?_eq_none h] at hb; cases hb
    have hcell : w.cell? ⟨b, k + i, none⟩ = c[k + i]? := by simp [World.cell?, hb]
    have hsome : c[k + i]? = some c[k + i] := by simp
    have hfr : w.frozen? ⟨b, k + i, none⟩ = false := by
      simp only [World.frozen?, hb, Bool.and_eq_false_iff, decide_eq_false_iff_not]; omega
    have hset : w.setCell ⟨b, k + i, none⟩ v = World.setBlk w b (.cells (c.setIfInBounds (k + i) v) T (lo, hi)) := by
      unfold World.setCell World.setBlk
      congr 1
      apply Array.ext_getElem?
      intro j
      rw [Array.getElem?_modify, Array.getElem?_setIfInBounds]
      split
      · rename_i e; subst e; rw [hb]; simp [hlt]
      · rfl
    have h1 : (store ⟨b, k + i, none⟩ v).run P w = .ok () (World.setBlk w b (.cells (c.setIfInBounds (k + i) v) T (lo, hi))) := by
      rw [run_store P w _ v .plain (hl v (by simp)), hcell, hsome]
      simp only [hfr, Bool.false_eq_true, if_false, hset]
    have ih := run_storeCells l (World.setBlk w b (.cells (c.setIfInBounds (k + i) v) T (lo, hi))) b k (i + 1) (c.setIfInBounds (k + i) v) T lo hi (setBlk_get hlt) (by simpa using hf) (by simp; omega) (fun u hu => hl u (by simp [hu]))
    simp only [storeCells, Sem.run_bind, add_at, h1, Result.andThen_ok, ih, layAt, List.zipIdx_cons, List.foldl_cons]
    congr 1
    simp only [World.setBlk]
    congr 1
    apply Array.ext_getElem?
    intro j
    simp only [Array.getElem?_setIfInBounds, Array.size_setIfInBounds]
    split <;> rfl

/-- A row of values stands in an array from a place on. -/
def Win (ρ : Ren) (o : Nat) (cs : List V) (c : Array Value) : Prop := o + cs.length ≤ c.size ∧ ∀ (i : Nat) (v : V), cs[i]? = some v → ∃ v', c[o + i]? = some v' ∧ VRel ρ v v'

theorem win_lay : ∀ {vs : List V} {l : List Value} (hl : L2 (VRel ρ) vs l) {cs : List V} {c : Array Value} (o off i : Nat), Win ρ o cs c → off + i + vs.length ≤ cs.length → Win ρ o (wr cs (off + i) vs) (layAt c (o + off) l i)
  | [], l, hl, cs, c, o, off, i, hw, hb => by
    cases hl
    have : wr cs (off + i) [] = cs := by
      apply List.ext_getElem?
      intro j
      rw [wr_get cs (off + i) [] j (by simpa using hb), if_neg (by simp)]
    rw [this]
    exact hw
  | v :: vs, l, hl, cs, c, o, off, i, hw, hb => by
    obtain _ | ⟨h1, h2⟩ := hl
    rename_i v' l
    simp only [List.length_cons] at hb
    rw [wr_cons cs (off + i) v vs (by omega)]
    have hw' : Win ρ o (cs.set (off + i) v) (c.setIfInBounds (o + off + i) v') := by
      refine ⟨by simpa using hw.1, fun j u hu => ?_⟩
      rw [List.getElem?_set] at hu
      by_cases e : off + i = j
      · subst e
        simp only [if_true] at hu
        split at hu
        · cases hu
          refine ⟨v', ?_, h1⟩
          rw [Array.getElem?_setIfInBounds, if_pos (by omega)]
          have := hw.1
          rw [if_pos (by omega)]
        · cases hu
      · rw [if_neg e] at hu
        obtain ⟨u', h3, h4⟩ := hw.2 j u hu
        refine ⟨u', ?_, h4⟩
        rw [Array.getElem?_setIfInBounds, if_neg (by omega)]
        exact h3
    have := win_lay h2 o off (i + 1) hw' (by simp; omega)
    exact this

end
end Go.Cn
