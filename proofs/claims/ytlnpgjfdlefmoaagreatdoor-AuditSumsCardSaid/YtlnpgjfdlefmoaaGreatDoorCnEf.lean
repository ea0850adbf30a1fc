/- The operations that act, but for calls: storing, appending, copying, maps. -/
import Derived.Test.YtlnpgjfdlefmoaaGreatDoorCnRel
namespace Go.Cn
set_option linter.unusedVariables false
set_option linter.unusedSimpArgs false
set_option maxHeartbeats 100000

def nextVal : Next → Option Value
  | .value v => some v
  | .skip => some undef
  | _ => none

/-- The run of an operation that acts comes to what the abstract machine says. -/
def EfOk (P : Program) (ρ : Ren) (H : Heap) (w : World) (r : Result Next) (v : V) (H' : Heap) : Prop :=
  ∃ n v' w' ρ', r = .ok n w' ∧ nextVal n = some v' ∧ VRel ρ' v v' ∧ Rel ρ' H' w' ∧ Ext ρ H w ρ' H' w'

section
variable {P : Program} {ρ : Ren} {H : Heap} {w : World} {o : Oper} {a : Act} {e : Env}

theorem cells_rel' {v : V} {v' : Value} (h : VRel ρ v v') (hc : v.cells.all V.isCell = true) : VRels ρ v.cells v'.cells :=
  cells_rel h (by simpa using hc)

theorem rel_one {vs : List V} {l : List Value} (h : L2 (VRel ρ) vs l) (hc : ∀ v ∈ vs, v.isCell = true) : ∀ x ∈ l, x.oneCell' = true := by
  induction h with
  | nil => simp
  | cons h1 h2 ih =>
    intro x hx
    rcases List.mem_cons.1 hx with rfl | hx
    · exact isCell_rel h1 (hc _ (by simp))
    · exact ih (fun v hv => hc v (by simp [hv])) x hx

/-- Values are stored from a place of a block on. -/
theorem write_ok (hr : Rel ρ H w) {id off b o n es : Nat} {ro : Bool} (hl : ρ id = .live ro b o n es) {vs : List V} {l : List Value} (hv : L2 (VRel ρ) vs l) (hc : ∀ v ∈ vs, v.isCell = true) {H' : Heap} (h : H.write id off vs = some H') :
    ∃ w', (storeCells ⟨b, o + off, none⟩ l).run P w = .ok () w' ∧ Rel ρ H' w' ∧ Ext ρ H w ρ H' w' := by
  unfold Heap.write at h
  split at h
  case h_2 => cases h
  rename_i es' cs hb
  split at h
  case isFalse => cases h
  rename_i hlen
  cases h
  have hB := hr.blk hl
  rw [hb] at hB
  obtain ⟨rfl, rfl, hcell, c, ⟨T, lo, hi, hcb, hcn, hfr, hz⟩, hle, hat⟩ := hB
  have hfr := hfr rfl
  subst hcn
  have hll : l.length = vs.length := by
    clear hlen hc
    induction hv with
    | nil => rfl
    | cons _ _ ih => simp [ih]
  have hwin : Win ρ o cs c := ⟨hle, hat⟩
  have hw2 := win_lay hv o off 0 hwin hlen
  have hrun := run_storeCells (P := P) l w b (o + off) 0 c T lo hi hcb hfr (by omega) (rel_one hv hc)
  refine ⟨_, hrun, ?_⟩
  refine rel_set hr hl (w' := World.setBlk w b (.cells (layAt c (o + off) l 0) T (lo, hi))) rfl rfl rfl ⟨rfl, rfl, wr_cells hlen hcell hc, layAt c (o + off) l 0, ⟨T, lo, hi, setBlk_get (hr.lt hl), layAt_size _ _ _ _, fun _ => by rw [← layAt_size l c (o + off) 0] at hfr; simpa [layAt_size] using hfr, hz⟩, ?_, hw2.2⟩
  have := hw2.1
  rw [layAt_size] at this
  simpa using this

theorem ef_st {t : TypeId} {x y : Operand} {n : Nat} (hop : o.op = .store t x y) (hz : szT P t = some n) (hr : Rel ρ H w)
    {vs : List V} {v : V} {H' : Heap} (hl : L2 (fun v x => VRel ρ v (a.eval x)) vs [x, y]) (hn : Kind.ef H (.st n) vs = some (v, H')) :
    EfOk P ρ H w ((execOp a.eval o).run P w) v H' := by
  obtain ⟨v1, v2, rfl, h1, h2⟩ := hl.two
  simp only [Kind.ef, xSt] at hn
  split at hn
  case h_2 => cases hn
  rename_i id off u heq
  simp at heq; obtain ⟨rfl, rfl⟩ := heq
  split at hn
  case isFalse => cases hn
  rename_i hc
  obtain ⟨hc1, hc2⟩ := hc
  cases hw : H.write id off v2.cells with
  | none => simp [hw] at hn
  | some H1 =>
    simp [hw] at hn
    obtain ⟨rfl, rfl⟩ := hn
    obtain ⟨ad, e1, hp⟩ := h1.ptr_inv
    have hcr := cells_rel' h2 hc2
    cases hp with
    | dead ad hd => unfold Heap.write at hw; rw [hr.dead hd] at hw; cases hw
    | live hll =>
      rename_i ro b o1 m es
      obtain ⟨w', h3, h4, h5⟩ := write_ok (P := P) hr hll hcr.l2 (by simpa using hc2) hw
      refine ⟨.skip, undef, w', ρ, ?_, rfl, .undef, h4, h5⟩
      have hsz : (a.eval y).cells.size = n := by rw [← hcr.1]; exact hc1
      simp only [execOp, hop, Instr.storeAt, e1, Instr.sureAddr, Sem.run_bind, Sem.run_pure, Result.andThen_ok, storeVar, run_szT hz, hsz, ne_eq, not_true_eq_false, if_false, h3]

theorem run_setObj {b : Nat} {O O' : Obj} (h : w.heap[b]? = some O) (hc : ∀ c T f, O ≠ .cells c T f) : (setObj b O').run P w = .ok () (World.setBlk w b O') := by
  unfold setObj
  cases O <;> first | exact absurd rfl (hc _ _ _) | (simp only [Sem.run, h]; rfl)

theorem EntriesRel.push {l : List (V × V × Nat)} {l' : Array MapEntry} (h : EntriesRel ρ l l') {k v : V} {e' : MapEntry} {s : Nat} (hk : VRel ρ k e'.key) (hv : VRel ρ v e'.val) (hs : e'.born = s) : EntriesRel ρ (l ++ [(k, v, s)]) (l'.push e') := by
  refine ⟨by simp [h.1], fun i x y t ht => ?_⟩
  rcases Nat.lt_trichotomy i l.length with hi | hi | hi
  · rw [List.getElem?_append_left hi] at ht
    obtain ⟨e1, h1, h2⟩ := h.2 i x y t ht
    refine ⟨e1, ?_, h2⟩
    have hi' : i < l'.size := h.1 ▸ hi
    rw [Array.getElem?_push_lt hi']
    rw [Array.getElem?_eq_getElem hi'] at h1
    exact h1
  · subst hi
    rw [List.getElem?_append_right (Nat.le_refl _)] at ht
    simp at ht
    obtain ⟨rfl, rfl, rfl⟩ := ht
    exact ⟨e', by rw [h.1]; simp, hk, hv, hs⟩
  · rw [List.getElem?_eq_none (by simp; omega)] at ht
    cases ht

theorem EntriesRel.setAt {l : List (V × V × Nat)} {l' : Array MapEntry} (h : EntriesRel ρ l l') {k v : V} {k' v' : Value} (hk : VRel ρ k k') (hv : VRel ρ v v') (i : Nat) :
    EntriesRel ρ (l.set i (k, v, ((l[i]?).map (·.2.2)).getD 0)) (l'.modify i fun e => { e with key := k', val := v' }) := by
  refine ⟨by simp [h.1], fun j x y t ht => ?_⟩
  rw [List.getElem?_set] at ht
  rw [Array.getElem?_modify]
  by_cases hij : i = j
  · subst hij
    simp only [if_true] at ht ⊢
    split at ht
    · rename_i hi
      rw [List.getElem?_eq_getElem hi] at ht
      cases ht
      obtain ⟨e1, h1, h2, h3, h4⟩ := h.2 i l[i].1 l[i].2.1 l[i].2.2 (by rw [List.getElem?_eq_getElem hi])
      exact ⟨{ e1 with key := k', val := v' }, by rw [h1]; rfl, hk, hv, h4⟩
    · cases ht
  · rw [if_neg hij] at ht ⊢
    exact h.2 j x y t ht

theorem EntriesRel.erase {l : List (V × V × Nat)} {l' : Array MapEntry} (h : EntriesRel ρ l l') (i : Nat) : EntriesRel ρ (l.eraseIdx i) (l'.eraseIdxIfInBounds i) := by
  have hlist : (l'.eraseIdxIfInBounds i).toList = l'.toList.eraseIdx i := by
    unfold Array.eraseIdxIfInBounds
    split
    · simp
    · rename_i hi
      rw [List.eraseIdx_of_length_le (by simpa using hi)]
  refine ⟨?_, fun j x y t ht => ?_⟩
  · rw [← Array.length_toList, hlist, List.length_eraseIdx, List.length_eraseIdx, h.1, Array.length_toList]
  · rw [List.getElem?_eraseIdx] at ht
    rw [← Array.getElem?_toList, hlist, List.getElem?_eraseIdx]
    split at ht
    · rename_i hj
      obtain ⟨e1, h1, h2⟩ := h.2 j x y t ht
      exact ⟨e1, by rw [if_pos hj, Array.getElem?_toList]; exact h1, h2⟩
    · rename_i hj
      obtain ⟨e1, h1, h2⟩ := h.2 (j + 1) x y t ht
      exact ⟨e1, by rw [if_neg hj, Array.getElem?_toList]; exact h1, h2⟩

/-- Equal leaves have the same bits. -/
theorem sameBits_leaf {k : LeafK} {x y : Value} (n : Nat) (h : leafEq k x y = some true) : Instr.sameBits n x y = true := by
  unfold leafEq at h
  split at h
  · split at h
    · rename_i hk
      subst hk
      simp at h
      subst h
      cases n <;> simp [Instr.sameBits]
    · cases h
  · simp at h
    rename_i s u
    have : s = u := by
      cases s; cases u
      simp at h
      rw [h]
    subst this
    have e : (s == s) = true := by rw [beq_toListBytes]; exact beq_self_eq_true _
    cases n <;> simp [Instr.sameBits, e]
  · simp at h
    subst h
    cases n <;> simp [Instr.sameBits]
  · cases h

theorem sameBits_leafs (n : Nat) : ∀ {ks : List LeafK} {xs ys : List Value}, leafsEq ks xs ys = some true → (xs.zip ys).all (fun (x, y) => Instr.sameBits n x y) = true
  | [], [], [], _ => rfl
  | k :: ks, x :: xs, y :: ys, h => by
    simp only [leafsEq] at h
    split at h
    case h_2 => cases h
    rename_i u v h1 h2
    simp at h
    obtain ⟨rfl, rfl⟩ := h
    simp only [List.zip_cons_cons, List.all_cons, sameBits_leaf n h1, sameBits_leafs n h2, Bool.and_self]
  | [], [], _ :: _, h => by simp [leafsEq] at h
  | [], _ :: _, _, h => by simp [leafsEq] at h
  | _ :: _, [], _, h => by simp [leafsEq] at h
  | _ :: _, _ :: _, [], h => by simp [leafsEq] at h

theorem leafEq_symm {k : LeafK} {x y : Value} (h : leafEq k x y = some true) : leafEq k y x = some true := by
  unfold leafEq at h
  split at h
  · split at h
    · rename_i hk
      subst hk
      simp at h
      subst h
      simp [leafEq]
    · cases h
  · simp at h
    simp [leafEq, h]
  · simp at h
    simp [leafEq, h]
  · cases h

theorem leafsEq_symm : ∀ {ks : List LeafK} {xs ys : List Value}, leafsEq ks xs ys = some true → leafsEq ks ys xs = some true
  | [], [], [], _ => rfl
  | k :: ks, x :: xs, y :: ys, h => by
    simp only [leafsEq] at h ⊢
    split at h
    case h_2 => cases h
    rename_i u v h1 h2
    simp at h
    obtain ⟨rfl, rfl⟩ := h
    rw [leafEq_symm h1, leafsEq_symm h2]
    rfl
  | [], [], _ :: _, h => by simp [leafsEq] at h
  | [], _ :: _, _, h => by simp [leafsEq] at h
  | _ :: _, [], _, h => by simp [leafsEq] at h
  | _ :: _, _ :: _, [], h => by simp [leafsEq] at h

theorem findE_at {g : Bool} {ks : List LeafK} {k : V} : ∀ {l : List (V × V × Nat)} {i : Nat} {k1 v1 : V}, findE g ks k l = some (some (i, k1, v1)) → ∃ s, l[i]? = some (k1, v1, s) ∧ keyFit g ks k1 = true ∧ cellsEq ks k.cells k1.cells = some true
  | [], i, k1, v1, h => by simp [findE] at h
  | (k2, v2, s2) :: l, i, k1, v1, h => by
    unfold findE at h
    split at h
    case isTrue => cases h
    rename_i hfit
    simp at hfit
    split at h
    · rename_i hc
      cases h
      exact ⟨s2, rfl, hfit, hc⟩
    · obtain ⟨r0, hr0, hrr⟩ := next_found h
      cases r0 with
      | none => cases hrr
      | some z =>
        obtain ⟨j, x, y⟩ := z
        simp at hrr
        obtain ⟨rfl, rfl, rfl⟩ := hrr
        obtain ⟨s, h1, h2, h3⟩ := findE_at hr0
        exact ⟨s, by simpa using h1, h2, h3⟩
    · cases h

theorem keyStays {t : TypeId} {g : Bool} {ks : List LeafK} (hg : aggT P t = some g) {k k1 : V} {k' k1' : Value} (h : VRel ρ k k') (h1 : VRel ρ k1 k1') (hf : keyFit g ks k = true) (hf1 : keyFit g ks k1 = true) (hc : cellsEq ks k.cells k1.cells = some true) (w : World) :
    (Instr.keyThatStays k1' k').run P w = .ok k' w := by
  obtain ⟨s1, r1⟩ := seg_cells (P := P) hg h hf
  obtain ⟨s2, r2⟩ := seg_cells (P := P) hg h1 hf1
  have hle := leafsEq_symm (cellsEq_leafs r1.l2 r2.l2 hc)
  have hsame : Instr.sameBits 10000 k1' k' = true := by
    unfold seg at s1 s2
    rw [hg] at s1 s2
    cases g with
    | true =>
      simp only at s1 s2
      split at s1 <;> simp at s1
      split at s2 <;> simp at s2
      rw [← s1, ← s2] at hle ⊢
      have hb := sameBits_leafs 9999 hle
      show (_ && _) = true
      have hl1 : k1'.cells.size = ks.length := by rw [← Array.length_toList]; exact (leafsEq_len hle).1
      have hl2 : k'.cells.size = ks.length := by rw [← Array.length_toList]; exact (leafsEq_len hle).2
      rw [Bool.and_eq_true]
      refine ⟨?_, hb⟩
      rw [beq_iff_eq, hl1, hl2]
    | false =>
      simp only at s1 s2
      split at s1 <;> simp at s1
      split at s2 <;> simp at s2
      rename_i _ v e1 _ u e2
      subst s1; subst s2
      rw [e1, e2] at hle
      match ks, hle with
      | [q], hle =>
        simp only [leafsEq] at hle
        split at hle
        case h_2 => cases hle
        rename_i x y h3 h4
        simp at hle
        obtain ⟨rfl, rfl⟩ := hle
        exact sameBits_leaf 10000 h3
      | [], hle => simp [leafsEq] at hle
      | _ :: _ :: _, hle => simp [leafsEq] at hle
  simp [Instr.keyThatStays, hsame]

theorem mapLive (hr : Rel ρ H w) {id : Nat} {x : Value} (h : VRel ρ (.map (some id)) x) {l : List (V × V × Nat)} {clock : Nat} (hb : H.blk id = .map l clock) :
    ∃ b n es l', x = .map (some b) ∧ ρ id = .live false b 0 n es ∧ w.heap[b]? = some (.map l' clock) ∧ EntriesRel ρ l l' := by
  cases h with
  | mapDead b hd => rw [hr.dead hd] at hb; cases hb
  | map hl =>
    rename_i ro b n es
    have hB := hr.blk hl
    rw [hb] at hB
    obtain ⟨_, rfl, l', h1, h2⟩ := hB
    exact ⟨b, n, es, l', rfl, hl, h1, h2⟩

theorem ef_mset {t kt el : TypeId} {m k x : Operand} {g : Bool} {ks : List LeafK} (hop : o.op = .mapUpdate t m k x ∨ o.op = .insert t m k x) (ht : P.underlying t = some (.map kt el)) (hk : flatKey P kt = some ks) (hg : aggT P kt = some g) (hr : Rel ρ H w)
    {vs : List V} {v : V} {H' : Heap} (hl : L2 (fun v x => VRel ρ v (a.eval x)) vs [m, k, x]) (hn : Kind.ef H (.mset g ks) vs = some (v, H')) :
    EfOk P ρ H w ((execOp a.eval o).run P w) v H' := by
  obtain ⟨v1, v2, v3, rfl, h1, h2, h3⟩ := hl.three
  simp only [Kind.ef, xMset] at hn
  split at hn
  case h_2 => cases hn
  rename_i id kk vv heq
  simp at heq; obtain ⟨rfl, rfl, rfl⟩ := heq
  split at hn
  case h_2 => cases hn
  rename_i l clock hb
  split at hn
  case isTrue => cases hn
  rename_i hfit
  simp at hfit
  obtain ⟨b, n, es, l', e1, hlv, hbl, hent⟩ := mapLive hr h1 hb
  have hobj : (getObj b).run P w = .ok (.map l' clock) w := run_getObj hbl (by intros; simp)
  have hck := run_checkKey (P := P) hk hg h2 hfit false w
  have fin : ∀ (O : Obj) (B : Blk), BlkRel ρ (World.setBlk w b O) b 0 n es false B → Rel ρ (H.set id B) (World.setBlk w b O) ∧ Ext ρ H w ρ (H.set id B) (World.setBlk w b O) :=
    fun O B hB => rel_set hr hlv (w' := World.setBlk w b O) rfl rfl rfl hB
  have hlt := hr.lt hlv
  cases hfe : findE g ks v2 l with
  | none => rw [hfe] at hn; cases hn
  | some r =>
    obtain ⟨r', f1, f2⟩ := findKey_ok (P := P) hk hg h2 hfit hent hfe w
    rw [hfe] at hn
    cases f2 with
    | none =>
      cases hn
      have hso : (setObj b (.map (l'.push { key := a.eval k, val := a.eval x, born := clock }) (clock + 1))).run P w = .ok () _ := run_setObj hbl (by intros; simp)
      obtain ⟨g1, g2⟩ := fin (.map (l'.push { key := a.eval k, val := a.eval x, born := clock }) (clock + 1)) (.map (l ++ [(v2, v3, clock)]) (clock + 1)) ⟨rfl, rfl, _, setBlk_get hlt, hent.push h2 h3 rfl⟩
      refine ⟨.skip, undef, _, ρ, ?_, rfl, .undef, g1, g2⟩
      rcases hop with hop | hop <;>
        simp only [execOp, hop, Instr.mapUpdate, Sem.run_bind, run_underlying ht, Result.andThen_ok, e1, hobj, hck, f1, hso, Sem.run_pure]
    | some hvv =>
      rename_i i k1 v1 v'
      cases hn
      obtain ⟨s, g3, g4, g5⟩ := findE_at hfe
      obtain ⟨e', g6, g7, g8, g9⟩ := hent.2 i k1 v1 s g3
      have hst := keyStays (P := P) hg h2 g7 hfit g4 g5 w
      have hso : (setObj b (.map (l'.modify i fun e => { e with key := a.eval k, val := a.eval x }) clock)).run P w = .ok () _ := run_setObj hbl (by intros; simp)
      obtain ⟨g1, g2⟩ := fin (.map (l'.modify i fun e => { e with key := a.eval k, val := a.eval x }) clock) (.map (l.set i (v2, v3, ((l[i]?).map (·.2.2)).getD 0)) clock) ⟨rfl, rfl, _, setBlk_get hlt, hent.setAt h2 h3 i⟩
      refine ⟨.skip, undef, _, ρ, ?_, rfl, .undef, g1, g2⟩
      have hkey : ((l'[i]?).map (·.key)).getD (a.eval k) = e'.key := by rw [g6]; rfl
      rcases hop with hop | hop <;>
        simp only [execOp, hop, Instr.mapUpdate, Sem.run_bind, run_underlying ht, Result.andThen_ok, e1, hobj, hck, f1, hkey, hst, hso, Sem.run_pure]

theorem ef_del {c : Call} {t kt el : TypeId} {m k : Operand} {ts : List TypeId} {g : Bool} {ks : List LeafK} (hop : o.op = .call c) (hc : c.callee = .builtin .delete) (ha : c.args.toList = [m, k]) (hat : c.argTypes.toList = t :: ts) (ht : P.underlying t = some (.map kt el)) (hk : flatKey P kt = some ks) (hg : aggT P kt = some g) (hr : Rel ρ H w)
    {vs : List V} {v : V} {H' : Heap} (hl : L2 (fun v x => VRel ρ v (a.eval x)) vs [m, k]) (hn : Kind.ef H (.del g ks) vs = some (v, H')) :
    EfOk P ρ H w ((execOp a.eval o).run P w) v H' := by
  obtain ⟨v1, v2, rfl, h1, h2⟩ := hl.two
  have ha' : c.args = #[m, k] := by rw [← ha]
  have hat' : c.argTypes[0]? = some t := by rw [← Array.getElem?_toList, hat]; rfl
  simp only [Kind.ef, xDel] at hn
  split at hn
  case h_2 => cases hn
  rename_i id kk heq
  simp at heq; obtain ⟨rfl, rfl⟩ := heq
  split at hn
  case h_2 => cases hn
  rename_i l clock hb
  split at hn
  case isTrue => cases hn
  rename_i hfit
  simp at hfit
  obtain ⟨b, n, es, l', e1, hlv, hbl, hent⟩ := mapLive hr h1 hb
  have hobj : (getObj b).run P w = .ok (.map l' clock) w := run_getObj hbl (by intros; simp)
  have hck := run_checkKey (P := P) hk hg h2 hfit l'.isEmpty w
  have hlt := hr.lt hlv
  cases hfe : findE g ks v2 l with
  | none => rw [hfe] at hn; cases hn
  | some r =>
    obtain ⟨r', f1, f2⟩ := findKey_ok (P := P) hk hg h2 hfit hent hfe w
    rw [hfe] at hn
    cases f2 with
    | none =>
      cases hn
      have hso : (setObj b (.map l' clock)).run P w = .ok () _ := run_setObj hbl (by intros; simp)
      have hrel := rel_set hr hlv (w' := World.setBlk w b (.map l' clock)) rfl rfl rfl (B := .map l clock) ⟨rfl, rfl, l', setBlk_get hlt, hent⟩
      have hsame : H.set id (.map l clock) = H := by
        unfold Heap.set
        cases H
        simp only at hb ⊢
        congr
        funext j
        split
        · rename_i e; rw [e, hb]
        · rfl
      rw [hsame] at hrel
      refine ⟨.value (.tuple #[]), .tuple #[], _, ρ, ?_, rfl, .ofTuple .nil, hrel.1, hrel.2⟩
      simp only [execOp, hop, Sem.run_bind, resolve, hc, invoke, builtin, Sem.run_pure, Result.andThen_ok, Builtin.delete_, ha', hat', List.map_toArray, List.map_cons, List.map_nil, List.getElem?_toArray, List.getElem?_cons_zero, List.getElem?_cons_succ, run_underlying ht, e1, hobj, hck, f1, hso]
    | some hvv =>
      rename_i i k1 v1 v'
      cases hn
      have hso : (setObj b (.map (l'.eraseIdxIfInBounds i) clock)).run P w = .ok () _ := run_setObj hbl (by intros; simp)
      have hrel := rel_set hr hlv (w' := World.setBlk w b (.map (l'.eraseIdxIfInBounds i) clock)) rfl rfl rfl (B := .map (l.eraseIdx i) clock) ⟨rfl, rfl, _, setBlk_get hlt, hent.erase i⟩
      refine ⟨.value (.tuple #[]), .tuple #[], _, ρ, ?_, rfl, .ofTuple .nil, hrel.1, hrel.2⟩
      simp only [execOp, hop, Sem.run_bind, resolve, hc, invoke, builtin, Sem.run_pure, Result.andThen_ok, Builtin.delete_, ha', hat', List.map_toArray, List.map_cons, List.map_nil, List.getElem?_toArray, List.getElem?_cons_zero, List.getElem?_cons_succ, run_underlying ht, e1, hobj, hck, f1, hso]

end
end Go.Cn
