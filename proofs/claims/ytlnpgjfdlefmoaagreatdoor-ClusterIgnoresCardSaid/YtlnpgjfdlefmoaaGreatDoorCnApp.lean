/- The operations that act, but for calls: storing, appending, copying, maps. -/
import Derived.Test.YtlnpgjfdlefmoaaGreatDoorCnRel
import Derived.Laws.Append
namespace Go.Cn
set_option linter.unusedVariables false
set_option linter.unusedSimpArgs false
set_option maxHeartbeats 100000

def nextVal : Next → Option Value
  | .value v => some v
  | .skip => some undef
  | _ => none

/-- The run of an operation that acts comes to what the abstract machine says. -/
def EfOk (P : Program) (ρ : Ren) (H : Heap) (w : World) (r : Result Next) (v : V) (H' : Heap) : Prop :=
  ∃ n v' w' ρ', r = .ok n w' ∧ nextVal n = some v' ∧ VRel ρ' v v' ∧ Rel ρ' H' w' ∧ Ext ρ H w ρ' H' w'

section
variable {P : Program} {ρ : Ren} {H : Heap} {w : World} {o : Oper} {a : Act} {e : Env}

theorem cells_rel' {v : V} {v' : Value} (h : VRel ρ v v') (hc : v.cells.all V.isCell = true) : VRels ρ v.cells v'.cells :=
  cells_rel h (by simpa using hc)

theorem rel_one {vs : List V} {l : List Value} (h : L2 (VRel ρ) vs l) (hc : ∀ v ∈ vs, v.isCell = true) : ∀ x ∈ l, x.oneCell' = true := by
  induction h with
  | nil => simp
  | cons h1 h2 ih =>
    intro x hx
    rcases List.mem_cons.1 hx with rfl | hx
    · exact isCell_rel h1 (hc _ (by simp))
    · exact ih (fun v hv => hc v (by simp [hv])) x hx

/-- Values are stored from a place of a block on. -/
theorem write_ok (hr : Rel ρ H w) {id off b o n es : Nat} {ro : Bool} (hl : ρ id = .live ro b o n es) {vs : List V} {l : List Value} (hv : L2 (VRel ρ) vs l) (hc : ∀ v ∈ vs, v.isCell = true) {H' : Heap} (h : H.write id off vs = some H') :
    ∃ w', (storeCells ⟨b, o + off, none⟩ l).run P w = .ok () w' ∧ Rel ρ H' w' ∧ Ext ρ H w ρ H' w' := by
  unfold Heap.write at h
  split at h
  case h_2 => cases h
  rename_i es' cs hb
  split at h
  case isFalse => cases h
  rename_i hlen
  cases h
  have hB := hr.blk hl
  rw [hb] at hB
  obtain ⟨rfl, rfl, hcell, c, ⟨T, lo, hi, hcb, hcn, hfr, hz⟩, hle, hat⟩ := hB
  have hfr := hfr rfl
  subst hcn
  have hll : l.length = vs.length := by
    clear hlen hc
    induction hv with
    | nil => rfl
    | cons _ _ ih => simp [ih]
  have hwin : Win ρ o cs c := ⟨hle, hat⟩
  have hw2 := win_lay hv o off 0 hwin hlen
  have hrun := run_storeCells (P := P) l w b (o + off) 0 c T lo hi hcb hfr (by omega) (rel_one hv hc)
  refine ⟨_, hrun, ?_⟩
  refine rel_set hr hl (w' := World.setBlk w b (.cells (layAt c (o + off) l 0) T (lo, hi))) rfl rfl rfl ⟨rfl, rfl, wr_cells hlen hcell hc, layAt c (o + off) l 0, ⟨T, lo, hi, setBlk_get (hr.lt hl), layAt_size _ _ _ _, fun _ => by rw [← layAt_size l c (o + off) 0] at hfr; simpa [layAt_size] using hfr, hz⟩, ?_, hw2.2⟩
  have := hw2.1
  rw [layAt_size] at this
  simpa using this

theorem ef_st {t : TypeId} {x y : Operand} {n : Nat} (hop : o.op = .store t x y) (hz : szT P t = some n) (hr : Rel ρ H w)
    {vs : List V} {v : V} {H' : Heap} (hl : L2 (fun v x => VRel ρ v (a.eval x)) vs [x, y]) (hn : Kind.ef H (.st n) vs = some (v, H')) :
    EfOk P ρ H w ((execOp a.eval o).run P w) v H' := by
  obtain ⟨v1, v2, rfl, h1, h2⟩ := hl.two
  simp only [Kind.ef, xSt] at hn
  split at hn
  case h_2 => cases hn
  rename_i id off u heq
  simp at heq; obtain ⟨rfl, rfl⟩ := heq
  split at hn
  case isFalse => cases hn
  rename_i hc
  obtain ⟨hc1, hc2⟩ := hc
  cases hw : H.write id off v2.cells with
  | none => simp [hw] at hn
  | some H1 =>
    simp [hw] at hn
    obtain ⟨rfl, rfl⟩ := hn
    obtain ⟨ad, e1, hp⟩ := h1.ptr_inv
    have hcr := cells_rel' h2 hc2
    cases hp with
    | dead ad hd => unfold Heap.write at hw; rw [hr.dead hd] at hw; cases hw
    | live hll =>
      rename_i ro b o1 m es
      obtain ⟨w', h3, h4, h5⟩ := write_ok (P := P) hr hll hcr.l2 (by simpa using hc2) hw
      refine ⟨.skip, undef, w', ρ, ?_, rfl, .undef, h4, h5⟩
      have hsz : (a.eval y).cells.size = n := by rw [← hcr.1]; exact hc1
      simp only [execOp, hop, Instr.storeAt, e1, Instr.sureAddr, Sem.run_bind, Sem.run_pure, Result.andThen_ok, storeVar, run_szT hz, hsz, ne_eq, not_true_eq_false, if_false, h3]

theorem run_setObj {b : Nat} {O O' : Obj} (h : w.heap[b]? = some O) (hc : ∀ c T f, O ≠ .cells c T f) : (setObj b O').run P w = .ok () (World.setBlk w b O') := by
  unfold setObj
  cases O <;> first | exact absurd rfl (hc _ _ _) | (simp only [Sem.run, h]; rfl)

theorem EntriesRel.push {l : List (V × V × Nat)} {l' : Array MapEntry} (h : EntriesRel ρ l l') {k v : V} {e' : MapEntry} {s : Nat} (hk : VRel ρ k e'.key) (hv : VRel ρ v e'.val) (hs : e'.born = s) : EntriesRel ρ (l ++ [(k, v, s)]) (l'.push e') := by
  refine ⟨by simp [h.1], fun i x y t ht => ?_⟩
  rcases Nat.lt_trichotomy i l.length with hi | hi | hi
  · rw [List.getElem?_append_left hi] at ht
    obtain ⟨e1, h1, h2⟩ := h.2 i x y t ht
    refine ⟨e1, ?_, h2⟩
    have hi' : i < l'.size := h.1 ▸ hi
    rw [Array.getElem?_push_lt hi']
    rw [Array.getElem?_eq_getElem hi'] at h1
    exact h1
  · subst hi
    rw [List.getElem?_append_right (Nat.le_refl _)] at ht
    simp at ht
    obtain ⟨rfl, rfl, rfl⟩ := ht
    exact ⟨e', by rw [h.1]; simp, hk, hv, hs⟩
  · rw [List.getElem?_eq_none (by simp; omega)] at ht
    cases ht

theorem EntriesRel.setAt {l : List (V × V × Nat)} {l' : Array MapEntry} (h : EntriesRel ρ l l') {k v : V} {k' v' : Value} (hk : VRel ρ k k') (hv : VRel ρ v v') (i : Nat) :
    EntriesRel ρ (l.set i (k, v, ((l[i]?).map (·.2.2)).getD 0)) (l'.modify i fun e => { e with key := k', val := v' }) := by
  refine ⟨by simp [h.1], fun j x y t ht => ?_⟩
  rw [List.getElem?_set] at ht
  rw [Array.getElem?_modify]
  by_cases hij : i = j
  · subst hij
    simp only [if_true] at ht ⊢
    split at ht
    · rename_i hi
      rw [List.getElem?_eq_getElem hi] at ht
      cases ht
      obtain ⟨e1, h1, h2, h3, h4⟩ := h.2 i l[i].1 l[i].2.1 l[i].2.2 (by rw [List.getElem?_eq_getElem hi])
      exact ⟨{ e1 with key := k', val := v' }, by rw [h1]; rfl, hk, hv, h4⟩
    · cases ht
  · rw [if_neg hij] at ht ⊢
    exact h.2 j x y t ht

theorem EntriesRel.erase {l : List (V × V × Nat)} {l' : Array MapEntry} (h : EntriesRel ρ l l') (i : Nat) : EntriesRel ρ (l.eraseIdx i) (l'.eraseIdxIfInBounds i) := by
  have hlist : (l'.eraseIdxIfInBounds i).toList = l'.toList.eraseIdx i := by
    unfold Array.eraseIdxIfInBounds
    split
    · simp
    · rename_i hi
      rw [List.eraseIdx_of_length_le (by simpa using hi)]
  refine ⟨?_, fun j x y t ht => ?_⟩
  · rw [← Array.length_toList, hlist, List.length_eraseIdx, List.length_eraseIdx, h.1, Array.length_toList]
  · rw [List.getElem?_eraseIdx] at ht
    rw [← Array.getElem?_toList, hlist, List.getElem?_eraseIdx]
    split at ht
    · rename_i hj
      obtain ⟨e1, h1, h2⟩ := h.2 j x y t ht
      exact ⟨e1, by rw [if_pos hj, Array.getElem?_toList]; exact h1, h2⟩
    · rename_i hj
      obtain ⟨e1, h1, h2⟩ := h.2 (j + 1) x y t ht
      exact ⟨e1, by rw [if_neg hj, Array.getElem?_toList]; exact h1, h2⟩

/-- Equal leaves have the same bits. -/
theorem sameBits_leaf {k : LeafK} {x y : Value} (n : Nat) (h : leafEq k x y = some true) : Instr.sameBits n x y = true := by
  unfold leafEq at h
  split at h
  · split at h
    · rename_i hk
      subst hk
      simp at h
      subst h
      cases n <;> simp [Instr.sameBits]
    · cases h
  · simp at h
    rename_i s u
    have : s = u := by
      cases s; cases u
      simp at h
      rw [h]
    subst this
    have e : (s == s) = true := by rw [beq_toListBytes]; exact beq_self_eq_true _
    cases n <;> simp [Instr.sameBits, e]
  · simp at h
    subst h
    cases n <;> simp [Instr.sameBits]
  · cases h

theorem sameBits_leafs (n : Nat) : ∀ {ks : List LeafK} {xs ys : List Value}, leafsEq ks xs ys = some true → (xs.zip ys).all (fun (x, y) => Instr.sameBits n x y) = true
  | [], [], [], _ => rfl
  | k :: ks, x :: xs, y :: ys, h => by
    simp only [leafsEq] at h
    split at h
    case h_2 => cases h
    rename_i u v h1 h2
    simp at h
    obtain ⟨rfl, rfl⟩ := h
    simp only [List.zip_cons_cons, List.all_cons, sameBits_leaf n h1, sameBits_leafs n h2, Bool.and_self]
  | [], [], _ :: _, h => by simp [leafsEq] at h
  | [], _ :: _, _, h => by simp [leafsEq] at h
  | _ :: _, [], _, h => by simp [leafsEq] at h
  | _ :: _, _ :: _, [], h => by simp [leafsEq] at h

theorem leafEq_symm {k : LeafK} {x y : Value} (h : leafEq k x y = some true) : leafEq k y x = some true := by
  unfold leafEq at h
  split at h
  · split at h
    · rename_i hk
      subst hk
      simp at h
      subst h
      simp [leafEq]
    · cases h
  · simp at h
    simp [leafEq, h]
  · simp at h
    simp [leafEq, h]
  · cases h

theorem leafsEq_symm : ∀ {ks : List LeafK} {xs ys : List Value}, leafsEq ks xs ys = some true → leafsEq ks ys xs = some true
  | [], [], [], _ => rfl
  | k :: ks, x :: xs, y :: ys, h => by
    simp only [leafsEq] at h ⊢
    split at h
    case h_2 => cases h
    rename_i u v h1 h2
    simp at h
    obtain ⟨rfl, rfl⟩ := h
    rw [leafEq_symm h1, leafsEq_symm h2]
    rfl
  | [], [], _ :: _, h => by simp [leafsEq] at h
  | [], _ :: _, _, h => by simp [leafsEq] at h
  | _ :: _, [], _, h => by simp [leafsEq] at h
  | _ :: _, _ :: _, [], h => by simp [leafsEq] at h

theorem findE_at {g : Bool} {ks : List LeafK} {k : V} : ∀ {l : List (V × V × Nat)} {i : Nat} {k1 v1 : V}, findE g ks k l = some (some (i, k1, v1)) → ∃ s, l[i]? = some (k1, v1, s) ∧ keyFit g ks k1 = true ∧ cellsEq ks k.cells k1.cells = some true
  | [], i, k1, v1, h => by simp [findE] at h
  | (k2, v2, s2) :: l, i, k1, v1, h => by
    unfold findE at h
    split at h
    case isTrue => cases h
    rename_i hfit
    simp at hfit
    split at h
    · rename_i hc
      cases h
      exact ⟨s2, rfl, hfit, hc⟩
    · obtain ⟨r0, hr0, hrr⟩ := next_found h
      cases r0 with
      | none => cases hrr
      | some z =>
        obtain ⟨j, x, y⟩ := z
        simp at hrr
        obtain ⟨rfl, rfl, rfl⟩ := hrr
        obtain ⟨s, h1, h2, h3⟩ := findE_at hr0
        exact ⟨s, by simpa using h1, h2, h3⟩
    · cases h

theorem keyStays {t : TypeId} {g : Bool} {ks : List LeafK} (hg : aggT P t = some g) {k k1 : V} {k' k1' : Value} (h : VRel ρ k k') (h1 : VRel ρ k1 k1') (hf : keyFit g ks k = true) (hf1 : keyFit g ks k1 = true) (hc : cellsEq ks k.cells k1.cells = some true) (w : World) :
    (Instr.keyThatStays k1' k').run P w = .ok k' w := by
  obtain ⟨s1, r1⟩ := seg_cells (P := P) hg h hf
  obtain ⟨s2, r2⟩ := seg_cells (P := P) hg h1 hf1
  have hle := leafsEq_symm (cellsEq_leafs r1.l2 r2.l2 hc)
  have hsame : Instr.sameBits 10000 k1' k' = true := by
    unfold seg at s1 s2
    rw [hg] at s1 s2
    cases g with
    | true =>
      simp only at s1 s2
      split at s1 <;> simp at s1
      split at s2 <;> simp at s2
      rw [← s1, ← s2] at hle ⊢
      have hb := sameBits_leafs 9999 hle
      show (_ && _) = true
      have hl1 : k1'.cells.size = ks.length := by rw [← Array.length_toList]; exact (leafsEq_len hle).1
      have hl2 : k'.cells.size = ks.length := by rw [← Array.length_toList]; exact (leafsEq_len hle).2
      rw [Bool.and_eq_true]
      refine ⟨?_, hb⟩
      rw [beq_iff_eq, hl1, hl2]
    | false =>
      simp only at s1 s2
      split at s1 <;> simp at s1
      split at s2 <;> simp at s2
      rename_i _ v e1 _ u e2
      subst s1; subst s2
      rw [e1, e2] at hle
      match ks, hle with
      | [q], hle =>
        simp only [leafsEq] at hle
        split at hle
        case h_2 => cases hle
        rename_i x y h3 h4
        simp at hle
        obtain ⟨rfl, rfl⟩ := hle
        exact sameBits_leaf 10000 h3
      | [], hle => simp [leafsEq] at hle
      | _ :: _ :: _, hle => simp [leafsEq] at hle
  simp [Instr.keyThatStays, hsame]

theorem mapLive (hr : Rel ρ H w) {id : Nat} {x : Value} (h : VRel ρ (.map (some id)) x) {l : List (V × V × Nat)} {clock : Nat} (hb : H.blk id = .map l clock) :
    ∃ b n es l', x = .map (some b) ∧ ρ id = .live false b 0 n es ∧ w.heap[b]? = some (.map l' clock) ∧ EntriesRel ρ l l' := by
  cases h with
  | mapDead b hd => rw [hr.dead hd] at hb; cases hb
  | map hl =>
    rename_i ro b n es
    have hB := hr.blk hl
    rw [hb] at hB
    obtain ⟨_, rfl, l', h1, h2⟩ := hB
    exact ⟨b, n, es, l', rfl, hl, h1, h2⟩

theorem ef_mset {t kt el : TypeId} {m k x : Operand} {g : Bool} {ks : List LeafK} (hop : o.op = .mapUpdate t m k x ∨ o.op = .insert t m k x) (ht : P.underlying t = some (.map kt el)) (hk : flatKey P kt = some ks) (hg : aggT P kt = some g) (hr : Rel ρ H w)
    {vs : List V} {v : V} {H' : Heap} (hl : L2 (fun v x => VRel ρ v (a.eval x)) vs [m, k, x]) (hn : Kind.ef H (.mset g ks) vs = some (v, H')) :
    EfOk P ρ H w ((execOp a.eval o).run P w) v H' := by
  obtain ⟨v1, v2, v3, rfl, h1, h2, h3⟩ := hl.three
  simp only [Kind.ef, xMset] at hn
  split at hn
  case h_2 => cases hn
  rename_i id kk vv heq
  simp at heq; obtain ⟨rfl, rfl, rfl⟩ := heq
  split at hn
  case h_2 => cases hn
  rename_i l clock hb
  split at hn
  case isTrue => cases hn
  rename_i hfit
  simp at hfit
  obtain ⟨b, n, es, l', e1, hlv, hbl, hent⟩ := mapLive hr h1 hb
  have hobj : (getObj b).run P w = .ok (.map l' clock) w := run_getObj hbl (by intros; simp)
  have hck := run_checkKey (P := P) hk hg h2 hfit false w
  have fin : ∀ (O : Obj) (B : Blk), BlkRel ρ (World.setBlk w b O) b 0 n es false B → Rel ρ (H.set id B) (World.setBlk w b O) ∧ Ext ρ H w ρ (H.set id B) (World.setBlk w b O) :=
    fun O B hB => rel_set hr hlv (w' := World.setBlk w b O) rfl rfl rfl hB
  have hlt := hr.lt hlv
  cases hfe : findE g ks v2 l with
  | none => rw [hfe] at hn; cases hn
  | some r =>
    obtain ⟨r', f1, f2⟩ := findKey_ok (P := P) hk hg h2 hfit hent hfe w
    rw [hfe] at hn
    cases f2 with
    | none =>
      cases hn
      have hso : (setObj b (.map (l'.push { key := a.eval k, val := a.eval x, born := clock }) (clock + 1))).run P w = .ok () _ := run_setObj hbl (by intros; simp)
      obtain ⟨g1, g2⟩ := fin (.map (l'.push { key := a.eval k, val := a.eval x, born := clock }) (clock + 1)) (.map (l ++ [(v2, v3, clock)]) (clock + 1)) ⟨rfl, rfl, _, setBlk_get hlt, hent.push h2 h3 rfl⟩
      refine ⟨.skip, undef, _, ρ, ?_, rfl, .undef, g1, g2⟩
      rcases hop with hop | hop <;>
        simp only [execOp, hop, Instr.mapUpdate, Sem.run_bind, run_underlying ht, Result.andThen_ok, e1, hobj, hck, f1, hso, Sem.run_pure]
    | some hvv =>
      rename_i i k1 v1 v'
      cases hn
      obtain ⟨s, g3, g4, g5⟩ := findE_at hfe
      obtain ⟨e', g6, g7, g8, g9⟩ := hent.2 i k1 v1 s g3
      have hst := keyStays (P := P) hg h2 g7 hfit g4 g5 w
      have hso : (setObj b (.map (l'.modify i fun e => { e with key := a.eval k, val := a.eval x }) clock)).run P w = .ok () _ := run_setObj hbl (by intros; simp)
      obtain ⟨g1, g2⟩ := fin (.map (l'.modify i fun e => { e with key := a.eval k, val := a.eval x }) clock) (.map (l.set i (v2, v3, ((l[i]?).map (·.2.2)).getD 0)) clock) ⟨rfl, rfl, _, setBlk_get hlt, hent.setAt h2 h3 i⟩
      refine ⟨.skip, undef, _, ρ, ?_, rfl, .undef, g1, g2⟩
      have hkey : ((l'[i]?).map (·.key)).getD (a.eval k) = e'.key := by rw [g6]; rfl
      rcases hop with hop | hop <;>
        simp only [execOp, hop, Instr.mapUpdate, Sem.run_bind, run_underlying ht, Result.andThen_ok, e1, hobj, hck, f1, hkey, hst, hso, Sem.run_pure]

theorem ef_del {c : Call} {t kt el : TypeId} {m k : Operand} {ts : List TypeId} {g : Bool} {ks : List LeafK} (hop : o.op = .call c) (hc : c.callee = .builtin .delete) (ha : c.args.toList = [m, k]) (hat : c.argTypes.toList = t :: ts) (ht : P.underlying t = some (.map kt el)) (hk : flatKey P kt = some ks) (hg : aggT P kt = some g) (hr : Rel ρ H w)
    {vs : List V} {v : V} {H' : Heap} (hl : L2 (fun v x => VRel ρ v (a.eval x)) vs [m, k]) (hn : Kind.ef H (.del g ks) vs = some (v, H')) :
    EfOk P ρ H w ((execOp a.eval o).run P w) v H' := by
  obtain ⟨v1, v2, rfl, h1, h2⟩ := hl.two
  have ha' : c.args = #[m, k] := by rw [← ha]
  have hat' : c.argTypes[0]? = some t := by rw [← Array.getElem?_toList, hat]; rfl
  simp only [Kind.ef, xDel] at hn
  split at hn
  case h_2 => cases hn
  rename_i id kk heq
  simp at heq; obtain ⟨rfl, rfl⟩ := heq
  split at hn
  case h_2 => cases hn
  rename_i l clock hb
  split at hn
  case isTrue => cases hn
  rename_i hfit
  simp at hfit
  obtain ⟨b, n, es, l', e1, hlv, hbl, hent⟩ := mapLive hr h1 hb
  have hobj : (getObj b).run P w = .ok (.map l' clock) w := run_getObj hbl (by intros; simp)
  have hck := run_checkKey (P := P) hk hg h2 hfit l'.isEmpty w
  have hlt := hr.lt hlv
  cases hfe : findE g ks v2 l with
  | none => rw [hfe] at hn; cases hn
  | some r =>
    obtain ⟨r', f1, f2⟩ := findKey_ok (P := P) hk hg h2 hfit hent hfe w
    rw [hfe] at hn
    cases f2 with
    | none =>
      cases hn
      have hso : (setObj b (.map l' clock)).run P w = .ok () _ := run_setObj hbl (by intros; simp)
      have hrel := rel_set hr hlv (w' := World.setBlk w b (.map l' clock)) rfl rfl rfl (B := .map l clock) ⟨rfl, rfl, l', setBlk_get hlt, hent⟩
      have hsame : H.set id (.map l clock) = H := by
        unfold Heap.set
        cases H
        simp only at hb ⊢
        congr
        funext j
        split
        · rename_i e; rw [e, hb]
        · rfl
      rw [hsame] at hrel
      refine ⟨.value (.tuple #[]), .tuple #[], _, ρ, ?_, rfl, .ofTuple .nil, hrel.1, hrel.2⟩
      simp only [execOp, hop, Sem.run_bind, resolve, hc, invoke, builtin, Sem.run_pure, Result.andThen_ok, Builtin.delete_, ha', hat', List.map_toArray, List.map_cons, List.map_nil, List.getElem?_toArray, List.getElem?_cons_zero, List.getElem?_cons_succ, run_underlying ht, e1, hobj, hck, f1, hso]
    | some hvv =>
      rename_i i k1 v1 v'
      cases hn
      have hso : (setObj b (.map (l'.eraseIdxIfInBounds i) clock)).run P w = .ok () _ := run_setObj hbl (by intros; simp)
      have hrel := rel_set hr hlv (w' := World.setBlk w b (.map (l'.eraseIdxIfInBounds i) clock)) rfl rfl rfl (B := .map (l.eraseIdx i) clock) ⟨rfl, rfl, _, setBlk_get hlt, hent.erase i⟩
      refine ⟨.value (.tuple #[]), .tuple #[], _, ρ, ?_, rfl, .ofTuple .nil, hrel.1, hrel.2⟩
      simp only [execOp, hop, Sem.run_bind, resolve, hc, invoke, builtin, Sem.run_pure, Result.andThen_ok, Builtin.delete_, ha', hat', List.map_toArray, List.map_cons, List.map_nil, List.getElem?_toArray, List.getElem?_cons_zero, List.getElem?_cons_succ, run_underlying ht, e1, hobj, hck, f1, hso]

end
end Go.Cn

/- Appending, copying, clearing. -/
namespace Go.Cn
set_option linter.unusedVariables false
set_option linter.unusedSimpArgs false
set_option maxHeartbeats 100000

section
variable {P : Program} {ρ : Ren} {H : Heap} {w : World} {o : Oper} {a : Act} {e : Env}

theorem layAt_get : ∀ (l : List Value) (c : Array Value) (k i j : Nat), k + i + l.length ≤ c.size → (layAt c k l i)[j]? = if k + i ≤ j ∧ j < k + i + l.length then l[j - (k + i)]? else c[j]?
  | [], c, k, i, j, h => by simp [layAt]; intro h1 h2; omega
  | x :: l, c, k, i, j, h => by
    simp only [List.length_cons] at h ⊢
    have ih := layAt_get l (c.setIfInBounds (k + i) x) k (i + 1) j (by simp; omega)
    simp only [layAt, List.zipIdx_cons, List.foldl_cons] at ih ⊢
    rw [ih, Array.getElem?_setIfInBounds]
    by_cases h1 : k + (i + 1) ≤ j ∧ j < k + (i + 1) + l.length
    · rw [if_pos h1, if_pos (by omega), show j - (k + i) = (j - (k + (i + 1))) + 1 by omega]; rfl
    · rw [if_neg h1]
      by_cases h2 : k + i = j
      · subst h2; rw [if_pos rfl, if_pos (by omega), if_pos (by omega)]; simp
      · rw [if_neg h2, if_neg (by omega)]

theorem VRels.append {xs ys : List V} {a b : Array Value} (h1 : VRels ρ xs a) (h2 : VRels ρ ys b) : VRels ρ (xs ++ ys) (a ++ b) := by
  refine ⟨by simp [h1.1, h2.1], fun i v v' hv hv' => ?_⟩
  by_cases hi : i < xs.length
  · rw [List.getElem?_append_left hi] at hv
    rw [Array.getElem?_append_left (by rw [← h1.1]; exact hi)] at hv'
    exact h1.2 i v v' hv hv'
  · rw [List.getElem?_append_right (by omega)] at hv
    rw [Array.getElem?_append_right (by rw [← h1.1]; omega), ← h1.1] at hv'
    exact h2.2 _ v v' hv hv'

/-- A new row with more room behind. -/
theorem new_cells_room {cs : List V} {c r : Array Value} {T : TypeId} {es : Nat} (h : VRels ρ cs c) (hc : ∀ v ∈ cs, v.isCell = true) {w' : World} (hw : w'.heap = w.heap.push (.cells (c ++ r) T)) (id : Nat) (ho : ρ id = .out) :
    BlkRel (ρ.upd id (.live false w.heap.size 0 (c ++ r).size es)) w' w.heap.size 0 (c ++ r).size es false (.cells es false cs) :=
  ⟨rfl, rfl, hc, c ++ r, cellsAt_new _ T es hw, by rw [h.1]; simp, fun i v hv => by
    obtain ⟨v', h1, h2⟩ := h.get hv
    refine ⟨v', ?_, h2.mono (Ren.upd_keeps ho)⟩
    have hi : i < c.size := by
      rcases Nat.lt_or_ge i c.size with h | h
      · exact h
      · rw [Array.getElem?_eq_none h] at h1; cases h1
    rw [Nat.zero_add, Array.getElem?_append_left hi]
    exact h1⟩

theorem Rel.next_out (hr : Rel ρ H w) : ρ H.next = .out := by
  cases h : ρ H.next with
  | out => rfl
  | _ => exact absurd (hr.dom (id := H.next) (by rw [h]; simp)) (Nat.lt_irrefl _)

theorem run_firstCells_slice (size n : Nat) (b : Addr) (l c : Nat) (w : World) : (Builtin.firstCells size n (.slice (some b) l c)).run P w = (loadCells b (n * size)).run P w := rfl

/-- What append appends to: a slice or a string. -/
def NoInt (P : Program) (u : TypeId) : Prop := (∃ e, P.underlying u = some (.slice e)) ∨ P.underlying u = some .string

/-- The run of append where a new row is made. -/
theorem run_append_new {t u ty el : TypeId} {i : TypeInfo} {zv xv : Value} {q : Option Addr} {len cap m : Nat} {old new : Array Value} (ht : P.underlying t = some (.slice el)) (hu : NoInt P u) (hi : P.info? el = some i) (hz : i.zero = some zv)
    (hlen : (Builtin.lenOf xv).run P w = .ok m w) (hnew : (Builtin.firstCells i.size m xv).run P w.drew = .ok new w.drew) (hold : (Builtin.firstCells i.size len (.slice q len cap)).run P w.drew = .ok old w.drew)
    (hg : cap < len + m) (hb : (len + m) * i.bytes ≤ 2 ^ 40) (h63 : len + m ≤ 2 ^ 40) :
    (Builtin.append_ #[t, u] ty #[.slice q len cap, xv]).run P w = .ok (.slice (some ⟨w.heap.size, 0, none⟩) (len + m) (grownCap w (len + m) cap el)) (w.drew.alloc (.cells (old ++ new ++ Builtin.zeroCells zv.cells (grownCap w (len + m) cap el - (len + m))) el)) := by
  have hfit := growslice_fits (need := len + m) (old := cap) (bytes := i.bytes) hg (by omega)
  have hn : ¬ (len + m ≤ cap) := by omega
  have h63' : ¬ (9223372036854775807 < ((len : Int) + (m : Int))) := by omega
  have h48' : ¬ (281474976710656 < Builtin.nextslicecap (len + m) cap * i.bytes) := by omega
  rcases hu with ⟨e', hu⟩ | hu
  all_goals
    simp [Builtin.append_, run_underlying ht, run_underlying hu, sizeOf, typeInfo, zeroValue, hi, hz, hlen, hn, h63', h48', Question.forced, hnew, hold, newRow, grownCap]

/-- The run of append in place. -/
theorem run_append_here {t u ty el : TypeId} {i : TypeInfo} {xv : Value} {q : Addr} {len cap m : Nat} {new : Array Value} {w' : World} (ht : P.underlying t = some (.slice el)) (hu : NoInt P u) (hi : P.info? el = some i)
    (hlen : (Builtin.lenOf xv).run P w = .ok m w) (hnew : (Builtin.firstCells i.size m xv).run P w = .ok new w) (hs : (storeCells (q.add (len * i.size)) new.toList).run P w = .ok () w')
    (hg : len + m ≤ cap) :
    (Builtin.append_ #[t, u] ty #[.slice (some q) len cap, xv]).run P w = .ok (.slice (some q) (len + m) cap) w' := by
  rcases hu with ⟨e', hu⟩ | hu
  all_goals
    simp [Builtin.append_, run_underlying ht, run_underlying hu, sizeOf, typeInfo, hi, hlen, hg, hnew, hs]

theorem drew_heap (w : World) : w.drew.heap = w.heap := rfl

theorem Rel.of_heap {w' : World} (hr : Rel ρ H w) (h : w'.heap = w.heap) : Rel ρ H w' :=
  ⟨fun hl => (hr.blk hl).mono (Keeps.refl ρ) (by rw [h]), fun hl => by rw [h]; exact hr.lt hl, hr.inj, hr.dom, hr.dead, hr.top⟩

/-- What append makes, in a new row or in place. -/
theorem append_ok {t u ty el : TypeId} {i : TypeInfo} {zv xv : Value} {q : Option Addr} {len cap m s es : Nat} {full : Bool} {new : Array Value} {newV : List V} {p : Option (Nat × Nat)} {v : V} {H' : Heap} (hr : Rel ρ H w)
    (ht : P.underlying t = some (.slice el)) (hu : NoInt P u) (hi : P.info? el = some i) (hz : i.zero = some zv) (hzs : zv.cells.size = i.size)
    (hp : SRel ρ p len full es q cap) (hlen : ∀ w : World, (Builtin.lenOf xv).run P w = .ok m w) (hnew : ∀ w1 : World, w1.heap = w.heap → (Builtin.firstCells i.size m xv).run P w1 = .ok new w1) (hnr : VRels ρ newV new) (hnc : ∀ v ∈ newV, v.isCell = true) (hnl : newV.length = m * i.size)
    (hm : m ≠ 0) (h : appendV i.size i.bytes H p len full es m newV = some (v, H')) :
    ∃ v' w' ρ', (Builtin.append_ #[t, u] ty #[.slice q len cap, xv]).run P w = .ok v' w' ∧ VRel ρ' v v' ∧ Rel ρ' H' w' ∧ Ext ρ H w ρ' H' w' := by
  unfold appendV at h
  rw [if_neg hm] at h
  split at h
  case isFalse => cases h
  rename_i hb
  obtain ⟨hb1, hb2⟩ := hb
  -- a new row
  have grow : ∀ (H0 : Heap) (ρ0 : Ren) (old : Array Value) (oldV : List V), Rel ρ0 H0 w → Ext ρ H w ρ0 H0 w → VRels ρ0 oldV old → (∀ v ∈ oldV, v.isCell = true) → oldV.length = len * i.size → (Builtin.firstCells i.size len (.slice q len cap)).run P w.drew = .ok old w.drew → cap < len + m →
      ∃ v' w' ρ', (Builtin.append_ #[t, u] ty #[.slice q len cap, xv]).run P w = .ok v' w' ∧ VRel ρ' (.slice (some (H0.next, 0)) (len + m) false i.size) v' ∧ Rel ρ' (H0.push (.cells i.size false (oldV ++ newV))) w' ∧ Ext ρ H w ρ' (H0.push (.cells i.size false (oldV ++ newV))) w' := by
    intro H0 ρ0 old oldV hr0 hx0 hold hoc hol hrun hgt
    have hrn := run_append_new (P := P) (ty := ty) ht hu hi hz (hlen w) (hnew w.drew rfl) hrun hgt hb1 hb2
    have hcells : VRels ρ0 (oldV ++ newV) (old ++ new) := hold.append (hnr.mono hx0.keeps)
    have hcc : ∀ v ∈ oldV ++ newV, v.isCell = true := by
      intro v hv
      rcases List.mem_append.1 hv with h | h
      · exact hoc v h
      · exact hnc v h
    have hg := grownCap_ge w (len + m) cap el
    have hsize : (old ++ new ++ Builtin.zeroCells zv.cells (grownCap w (len + m) cap el - (len + m))).size = grownCap w (len + m) cap el * i.size := by
      have e1 : old.size = len * i.size := by rw [← hold.1]; exact hol
      have e2 : new.size = m * i.size := by rw [← hnr.1]; exact hnl
      simp only [Array.size_append, e1, e2, Builtin.zeroCells, Array.size_map, Array.size_range, hzs]
      rw [← Nat.add_mul, ← Nat.add_mul]
      congr 1
      omega
    obtain ⟨h1, h2⟩ := rel_push hr0 (w' := w.drew.alloc (.cells (old ++ new ++ Builtin.zeroCells zv.cells (grownCap w (len + m) cap el - (len + m))) el)) (O := .cells (old ++ new ++ Builtin.zeroCells zv.cells (grownCap w (len + m) cap el - (len + m))) el) rfl rfl rfl
      (new_cells_room (es := i.size) hcells hcc rfl H0.next hr0.next_out)
    exact ⟨_, _, _, hrn, new_slice hg (fun h => by cases h) (Nat.le_of_eq hsize.symm), h1, hx0.trans h2⟩
  split at h
  · -- from nil
    cases h
    cases hp
    obtain ⟨v', w', ρ', h1, h2, h3, h4⟩ := grow H ρ #[] [] hr (Ext.refl _ _ _) VRels.nil (by simp) (by simp) rfl (by omega)
    exact ⟨v', w', ρ', h1, h2, by simpa using h3, by simpa using h4⟩
  · rename_i id off
    split at h
    case h_2 => cases h
    rename_i es' ro cs hblk
    split at h
    case isFalse => cases h
    rename_i hroom
    obtain ⟨hroom, hese⟩ := hroom
    cases hp with
    | dead ad hd => rw [hr.dead hd] at hblk; cases hblk
    | live hl h1 h2 h3 h4 =>
      rename_i ro' b o1 n off'
      have hB := hr.blk hl
      rw [hblk] at hB
      obtain ⟨rfl, rfl, hcell, c, ⟨T, lo, hi', hcb, hcn, hfr, hz0⟩, hle, hat⟩ := hB
      subst hese
      have hrow : H.row id off (len * i.size) = some ((cs.drop off).take (len * i.size)) := by
        unfold Heap.row
        rw [hblk]
        simp only
        rw [if_pos hroom]
      have hoc : ∀ v ∈ (cs.drop off).take (len * i.size), v.isCell = true := fun v hv => hcell v (List.mem_of_mem_drop (List.mem_of_mem_take hv))
      have hol : ((cs.drop off).take (len * i.size)).length = len * i.size := by simp; omega
      have hold : ∃ old, (Builtin.firstCells i.size len (.slice (some ⟨b, off', none⟩) len cap)).run P w.drew = .ok old w.drew ∧ VRels ρ ((cs.drop off).take (len * i.size)) old := by
        by_cases h0 : len = 0
        · subst h0
          exact ⟨#[], by simp [Builtin.firstCells, loadCells, loadCellsFrom], by simpa using VRels.nil⟩
        · have e := h3 h0
          subst e
          obtain ⟨old, g1, g2, g3, g4⟩ := run_row (P := P) (hr.of_heap (drew_heap w)) hl hrow
          exact ⟨old, g1, g2⟩
      obtain ⟨old, hold1, hold2⟩ := hold
      split at h
      · rename_i hfull
        cases h
        have hc := h2 hfull
        exact grow H ρ old _ hr (Ext.refl _ _ _) hold2 hoc hol hold1 (by omega)
      · rename_i hfull
        split at h
        case isTrue => cases h
        rename_i hro
        simp at hro
        subst hro
        cases h
        by_cases hg : len + m ≤ cap
        · -- in place
          have hroom2 : off' + len * i.size + 0 + new.toList.length ≤ c.size := by
            rw [Array.length_toList, ← hnr.1, hnl, hcn]
            have e1 : len * i.size + m * i.size = (len + m) * i.size := by rw [Nat.add_mul]
            have e2 : (len + m) * i.size ≤ cap * i.size := Nat.mul_le_mul_right _ hg
            omega
          have hone := rel_one hnr.l2 hnc
          have hst := run_storeCells (P := P) new.toList w b (off' + len * i.size) 0 c T lo hi' hcb (by rw [hcn]; exact hfr rfl) hroom2 hone
          have hrn := run_append_here (P := P) (ty := ty) (q := ⟨b, off', none⟩) ht hu hi (hlen w) (hnew w rfl) (by rw [add_at]; exact hst) hg
          have hid : id < H.next := hr.dom (by rw [hl]; simp)
          have hk : Keeps ρ ((ρ.upd id .dead).upd H.next (.live false b off' n i.size)) := by
            intro j hj
            by_cases e : j = H.next
            · subst e; exact absurd hr.next_out hj
            · by_cases e2 : j = id
              · exact .inr (by simp [Ren.upd, e, e2]; intro h; omega)
              · exact .inl (by simp [Ren.upd, e, e2])
          have hBlk : BlkRel ((ρ.upd id .dead).upd H.next (.live false b off' n i.size)) (World.setBlk w b (.cells (layAt c (off' + len * i.size) new.toList 0) T (lo, hi'))) b off' n i.size false (.cells i.size false ((cs.drop off).take (len * i.size) ++ newV)) := by
            refine ⟨rfl, rfl, ?_, layAt c (off' + len * i.size) new.toList 0, ⟨T, lo, hi', setBlk_get (hr.lt hl), by rw [layAt_size]; exact hcn, hfr, hz0⟩, ?_, ?_⟩
            · intro v hv
              rcases List.mem_append.1 hv with h | h
              · exact hoc v h
              · exact hnc v h
            · rw [List.length_append, hol, hnl, ← Nat.add_mul]
              have e2 : (len + m) * i.size ≤ cap * i.size := Nat.mul_le_mul_right _ hg
              omega
            · intro j v hv
              rw [layAt_get new.toList c (off' + len * i.size) 0 (off' + j) hroom2]
              by_cases hj : j < len * i.size
              · rw [List.getElem?_append_left (by rw [hol]; exact hj)] at hv
                rw [if_neg (by omega)]
                have hl0 : len ≠ 0 := by rintro rfl; simp at hj
                have e := h3 hl0
                subst e
                rw [List.getElem?_take_of_lt hj, List.getElem?_drop] at hv
                obtain ⟨v', g1, g2⟩ := hat (off + j) v hv
                exact ⟨v', by rw [Nat.add_assoc]; exact g1, g2.mono hk⟩
              · rw [List.getElem?_append_right (by rw [hol]; omega), hol] at hv
                obtain ⟨v', g1, g2⟩ := hnr.get hv
                have hjl : j - len * i.size < new.size := by
                  rcases Nat.lt_or_ge (j - len * i.size) new.size with h | h
                  · exact h
                  · rw [Array.getElem?_eq_none h] at g1; cases g1
                refine ⟨v', ?_, g2.mono hk⟩
                rw [if_pos (by rw [Array.length_toList]; omega), Array.getElem?_toList]
                rw [show off' + j - (off' + len * i.size + 0) = j - len * i.size by omega]
                exact g1
          obtain ⟨g1, g2⟩ := rel_move hr hl (w' := World.setBlk w b (.cells (layAt c (off' + len * i.size) new.toList 0) T (lo, hi'))) rfl rfl rfl hBlk
          refine ⟨_, _, (ρ.upd id .dead).upd H.next (.live false b off' n i.size), hrn, .slice (.live (ro := false) (b := b) (o := off') (n := n) (Ren.upd_self _ _) hg (fun h => by cases h) (fun _ => rfl) h4), ?_, ?_⟩
          · exact g1
          · exact g2
        · -- a new row, the elder one let go
          obtain ⟨g1, g2⟩ := rel_kill hr hl
          have := grow (H.set id .dead) (ρ.upd id .dead) old _ g1 g2 (hold2.mono g2.keeps) hoc hol hold1 (by omega)
          exact this

theorem info_all {t : TypeId} {s b : Nat} {z : List V} (hs : szT P t = some s) (hb : byT P t = some b) (hz : zeroT P t = some z) (hzl : z.length = s) : ∃ i zv, P.info? t = some i ∧ i.zero = some zv ∧ i.size = s ∧ i.bytes = b ∧ zv.cells.size = i.size := by
  obtain ⟨i, hi, hib⟩ := run_byT hb
  obtain ⟨zv, h1, h2, h3⟩ := zeroT_rel (ρ := fun _ => .out) hz
  have his : i.size = s := by
    have := hs
    simp [szT, hi] at this
    exact this
  cases hz0 : i.zero with
  | none => have := h1 default; simp [zeroValue, run_info hi, hz0] at this
  | some zv' =>
    have : zv' = zv := by
      have := h1 default
      simp [zeroValue, run_info hi, hz0] at this
      exact this
    subst this
    exact ⟨i, zv', hi, hz0, his, hib, by rw [← h2.1, hzl, his]⟩

theorem EfOk.of_builtin {c : Call} {r : Sem Value} {x : Builtin} (hop : o.op = .call c) (hc : c.callee = .builtin x) (hr : ∀ cs, builtin x c.argTypes o.type cs (c.args.map a.eval) = (do pure (.value (← r)))) {v : V} {H' : Heap}
    (h : ∃ v' w' ρ', r.run P w = .ok v' w' ∧ VRel ρ' v v' ∧ Rel ρ' H' w' ∧ Ext ρ H w ρ' H' w') : EfOk P ρ H w ((execOp a.eval o).run P w) v H' := by
  obtain ⟨v', w', ρ', h1, h2, h3, h4⟩ := h
  refine ⟨.value v', v', w', ρ', ?_, rfl, h2, h3, h4⟩
  simp only [execOp, hop, Sem.run_bind, resolve, hc, invoke, Sem.run_pure, Result.andThen_ok]
  rw [hr]
  simp only [Sem.run_bind, h1, Result.andThen_ok, Sem.run_pure]

theorem ef_app {c : Call} {t u el : TypeId} {x y : Operand} {s b : Nat} {z : List V} {e' : TypeId} (hop : o.op = .call c) (hc : c.callee = .builtin .append) (ha : c.args.toList = [x, y]) (hat : c.argTypes.toList = [t, u]) (ht : P.underlying t = some (.slice el)) (hu : P.underlying u = some (.slice e'))
    (hs : szT P el = some s) (hb : byT P el = some b) (hz : zeroT P el = some z) (hzl : z.length = s) (hr : Rel ρ H w)
    {vs : List V} {v : V} {H' : Heap} (hl : L2 (fun v x => VRel ρ v (a.eval x)) vs [x, y]) (hn : Kind.ef H (.app s b) vs = some (v, H')) :
    EfOk P ρ H w ((execOp a.eval o).run P w) v H' := by
  obtain ⟨v1, v2, rfl, h1, h2⟩ := hl.two
  have ha' : c.args = #[x, y] := by rw [← ha]
  have hat' : c.argTypes = #[t, u] := by rw [← hat]
  obtain ⟨i, zv, hi, hz0, his, hib, hzs⟩ := info_all hs hb hz hzl
  subst his; subst hib
  simp only [Kind.ef, xApp] at hn
  split at hn
  case h_2 => cases hn
  rename_i p len full es q m full' es' heq
  simp at heq; obtain ⟨rfl, rfl⟩ := heq
  obtain ⟨pa, pc, e1, hp⟩ := h1.slice_inv
  obtain ⟨qa, qc, e2, hq⟩ := h2.slice_inv
  refine EfOk.of_builtin (r := Builtin.append_ c.argTypes o.type (c.args.map a.eval)) hop hc (fun _ => rfl) ?_
  have hmap : (#[x, y] : Array Operand).map a.eval = #[.slice pa len pc, .slice qa m qc] := by simp [e1, e2]
  rw [ha', hat', hmap]
  split at hn
  · rename_i hm
    cases hn
    subst hm
    refine ⟨.slice pa len pc, w, ρ, ?_, .slice hp, hr, Ext.refl _ _ _⟩
    have hle := hp.le
    have hf : (Builtin.firstCells i.size 0 (.slice qa 0 qc)).run P w = .ok #[] w := by cases qa <;> simp [Builtin.firstCells, loadCells, loadCellsFrom]
    cases pa <;> simp [Builtin.append_, run_underlying ht, run_underlying hu, run_szT hs, Builtin.lenOf, hle, hf, storeCells]
  · rename_i hm
    cases q with
    | none => cases hn
    | some io =>
      obtain ⟨id, off⟩ := io
      simp only at hn
      cases hrow : H.row id off (m * i.size) with
      | none => rw [hrow] at hn; cases hn
      | some newV =>
        rw [hrow] at hn
        cases hq with
        | dead ad hd => unfold Heap.row at hrow; rw [hr.dead hd] at hrow; cases hrow
        | live hlv g1 g2 g3 g4 =>
          have e := g3 hm
          subst e
          rename_i ro bq oq nq
          obtain ⟨new, f1, f2, f3, f4⟩ := run_row' (P := P) hr hlv hrow
          exact append_ok (ty := o.type) (s := i.size) hr ht (.inl ⟨e', hu⟩) hi hz0 hzs hp (fun w => rfl) (fun w1 hw1 => f1 w1 hw1) f2 f3 f4 hm hn

theorem ef_appStr {c : Call} {t u el : TypeId} {x y : Operand} {z : List V} (hop : o.op = .call c) (hc : c.callee = .builtin .append) (ha : c.args.toList = [x, y]) (hat : c.argTypes.toList = [t, u]) (ht : P.underlying t = some (.slice el)) (hu : P.underlying u = some .string)
    (hs : szT P el = some 1) (hb : byT P el = some 1) (hz : zeroT P el = some z) (hzl : z.length = 1) (hr : Rel ρ H w)
    {vs : List V} {v : V} {H' : Heap} (hl : L2 (fun v x => VRel ρ v (a.eval x)) vs [x, y]) (hn : Kind.ef H .appStr vs = some (v, H')) :
    EfOk P ρ H w ((execOp a.eval o).run P w) v H' := by
  obtain ⟨v1, v2, rfl, h1, h2⟩ := hl.two
  have ha' : c.args = #[x, y] := by rw [← ha]
  have hat' : c.argTypes = #[t, u] := by rw [← hat]
  obtain ⟨i, zv, hi, hz0, his, hib, hzs⟩ := info_all hs hb hz hzl
  simp only [Kind.ef, xAppStr] at hn
  split at hn
  case h_2 => cases hn
  rename_i p len full es str heq
  simp at heq; obtain ⟨rfl, rfl⟩ := heq
  obtain ⟨pa, pc, e1, hp⟩ := h1.slice_inv
  obtain ⟨t1, e2, rfl⟩ := h2.str_inv
  refine EfOk.of_builtin (r := Builtin.append_ c.argTypes o.type (c.args.map a.eval)) hop hc (fun _ => rfl) ?_
  have hmap : (#[x, y] : Array Operand).map a.eval = #[.slice pa len pc, .string t1] := by simp [e1, e2]
  rw [ha', hat', hmap]
  have hts : t1.size = t1.data.toList.length := size_eq
  by_cases hm : t1.data.toList.length = 0
  · simp only [appendV, hm, if_true] at hn
    cases hn
    refine ⟨.slice pa len pc, w, ρ, ?_, .slice hp, hr, Ext.refl _ _ _⟩
    have hle := hp.le
    have hnil : t1.data = #[] := by
      apply Array.ext'
      simpa using List.eq_nil_of_length_eq_zero hm
    have h0 : t1.size = 0 := by rw [hts, hm]
    have hf : (Builtin.firstCells i.size 0 (.string t1)).run P w = .ok #[] w := by
      simp [Builtin.firstCells]
    have hsz : szT P el = some i.size := by rw [his]; exact hs
    cases pa <;> simp [Builtin.append_, run_underlying ht, run_underlying hu, run_szT hsz, Builtin.lenOf, h0, hle, hf, storeCells]
  · have hnew : VRels ρ (rowOfBytes t1.data.toList) (t1.data.map fun b => Value.int .u8 b.toNat) := by
      refine ⟨by simp [rowOfBytes], fun j v v' hv hv' => ?_⟩
      simp only [rowOfBytes, List.getElem?_map] at hv
      rw [Array.getElem?_map] at hv'
      rw [Array.getElem?_toList] at hv
      cases hj : t1.data[j]? with
      | none => simp [hj] at hv
      | some b => simp [hj] at hv hv'; subst hv; subst hv'; exact .int _ _
    have hcell : ∀ v ∈ rowOfBytes t1.data.toList, v.isCell = true := by
      intro v hv
      simp [rowOfBytes] at hv
      obtain ⟨b, _, rfl⟩ := hv
      rfl
    have hfc : ∀ w1 : World, w1.heap = w.heap → (Builtin.firstCells i.size t1.data.toList.length (.string t1)).run P w1 = .ok (t1.data.map fun b => Value.int .u8 b.toNat) w1 := by
      intro w1 _
      rw [← hts]
      have : t1.extract 0 t1.size = t1 := by simp
      simp [Builtin.firstCells, this]
    have hn' : appendV i.size i.bytes H p len full es t1.data.toList.length (rowOfBytes t1.data.toList) = some (v, H') := by
      rw [his, hib]
      exact hn
    exact append_ok (ty := o.type) (s := i.size) hr ht (.inr hu) hi hz0 hzs hp (fun w => by rw [← hts]; rfl) hfc hnew hcell (by simp [rowOfBytes, his]) hm hn'

theorem ef_cpy {c : Call} {t u el e' : TypeId} {x y : Operand} {s : Nat} (hop : o.op = .call c) (hc : c.callee = .builtin .copy) (ha : c.args.toList = [x, y]) (hat : c.argTypes.toList = [t, u]) (ht : P.underlying t = some (.slice el)) (hs : szT P el = some s) (hr : Rel ρ H w)
    {vs : List V} {v : V} {H' : Heap} (hl : L2 (fun v x => VRel ρ v (a.eval x)) vs [x, y]) (hn : Kind.ef H (.cpy s) vs = some (v, H')) :
    EfOk P ρ H w ((execOp a.eval o).run P w) v H' := by
  obtain ⟨v1, v2, rfl, h1, h2⟩ := hl.two
  have ha' : c.args = #[x, y] := by rw [← ha]
  have hat' : c.argTypes = #[t, u] := by rw [← hat]
  simp only [Kind.ef, xCpy] at hn
  split at hn
  case h_2 => cases hn
  rename_i p len full es q m full' es' heq
  simp at heq; obtain ⟨rfl, rfl⟩ := heq
  obtain ⟨pa, pc, e1, hp⟩ := h1.slice_inv
  obtain ⟨qa, qc, e2, hq⟩ := h2.slice_inv
  refine EfOk.of_builtin (r := Builtin.copy_ c.argTypes o.type (c.args.map a.eval)) hop hc (fun _ => rfl) ?_
  have hmap : (#[x, y] : Array Operand).map a.eval = #[.slice pa len pc, .slice qa m qc] := by simp [e1, e2]
  rw [ha', hat', hmap]
  split at hn
  · rename_i hm
    cases hn
    refine ⟨.int .i64 0, w, ρ, ?_, .int _ _, hr, Ext.refl _ _ _⟩
    have hm' : Nat.min m len = 0 := hm
    have hf : (Builtin.firstCells s 0 (.slice qa m qc)).run P w = .ok #[] w := by cases qa <;> simp [Builtin.firstCells, loadCells, loadCellsFrom]
    cases pa <;> simp [Builtin.copy_, run_underlying ht, run_szT hs, Builtin.lenOf, hm', hf, storeCells, goInt]
  · rename_i hm
    split at hn
    case h_2 => cases hn
    rename_i id off id' off'
    split at hn
    case h_2 => cases hn
    rename_i newV hrow
    cases hwr : H.write id off newV with
    | none => rw [hwr] at hn; cases hn
    | some H1 =>
      rw [hwr] at hn
      simp at hn
      obtain ⟨rfl, rfl⟩ := hn
      cases hq with
      | dead ad hd => unfold Heap.row at hrow; rw [hr.dead hd] at hrow; cases hrow
      | live hlq g1 g2 g3 g4 =>
        rename_i ro' b' o1' n' off1'
        obtain rfl := g3 (by omega)
        obtain ⟨new, f1, f2, f3, f4⟩ := run_row (P := P) hr hlq hrow
        cases hp with
        | dead ad hd => unfold Heap.write at hwr; rw [hr.dead hd] at hwr; cases hwr
        | live hlp k1 k2 k3 k4 =>
          rename_i ro b o1 n off1
          obtain rfl := k3 (by omega)
          obtain ⟨w', w1, w2, w3⟩ := write_ok (P := P) hr hlp f2.l2 f3 hwr
          refine ⟨.int .i64 (min m len : Nat), w', ρ, ?_, .int _ _, w2, w3⟩
          have hmin : Nat.min m len = min m len := rfl
          simp [Builtin.copy_, run_underlying ht, run_szT hs, Builtin.lenOf, hmin, run_firstCells_slice, f1, w1, goInt]

theorem ef_clr {c : Call} {t el : TypeId} {x : Operand} {s : Nat} {z : List V} (hop : o.op = .call c) (hc : c.callee = .builtin .clear) (ha : c.args.toList = [x]) (hat : c.argTypes.toList = [t]) (ht : P.underlying t = some (.slice el)) (hs : szT P el = some s) (hz : zeroT P el = some z) (hzl : z.length = s) (hs0 : 0 < s) (hr : Rel ρ H w)
    {vs : List V} {v : V} {H' : Heap} (hl : L2 (fun v x => VRel ρ v (a.eval x)) vs [x]) (hn : Kind.ef H (.clr z) vs = some (v, H')) :
    EfOk P ρ H w ((execOp a.eval o).run P w) v H' := by
  obtain ⟨v1, rfl, h1⟩ := hl.one
  have ha' : c.args = #[x] := by rw [← ha]
  have hat' : c.argTypes = #[t] := by rw [← hat]
  simp only [Kind.ef, xClr] at hn
  split at hn
  case h_2 => cases hn
  rename_i p len full es heq
  simp at heq; subst heq
  obtain ⟨pa, pc, e1, hp⟩ := h1.slice_inv
  refine EfOk.of_builtin (r := Builtin.clear_ c.argTypes o.type (c.args.map a.eval)) hop hc (fun _ => rfl) ?_
  have hmap : (#[x] : Array Operand).map a.eval = #[.slice pa len pc] := by simp [e1]
  rw [ha', hat', hmap]
  split at hn
  · rename_i hm
    cases hn
    subst hm
    refine ⟨.tuple #[], w, ρ, ?_, .ofTuple .nil, hr, Ext.refl _ _ _⟩
    cases pa <;> simp [Builtin.clear_, run_underlying ht]
  · rename_i hm
    split at hn
    case h_2 => cases hn
    rename_i id off
    cases hwr : H.write id off (List.replicate len z).flatten with
    | none => rw [hwr] at hn; cases hn
    | some H1 =>
      rw [hwr] at hn
      simp at hn
      obtain ⟨rfl, rfl⟩ := hn
      obtain ⟨zv, z1, z2, z3⟩ := zeroT_rel (ρ := ρ) hz
      obtain ⟨c0, c1, c2, c3⟩ := zero_row z zv.cells z2 (by omega) len (len * z.length) rfl
      have hcell : ∀ v ∈ (List.replicate len z).flatten, v.isCell = true := by
        intro v hv
        obtain ⟨l, hl, hvl⟩ := List.mem_flatten.1 hv
        rw [List.eq_of_mem_replicate hl] at hvl
        exact z3 v hvl
      have hzc : Builtin.zeroCells zv.cells len = c0 := by
        rw [← c1]
        unfold Builtin.zeroCells
        rw [← z2.1]
      cases hp with
      | dead ad hd => unfold Heap.write at hwr; rw [hr.dead hd] at hwr; cases hwr
      | live hlp k1 k2 k3 k4 =>
        rename_i ro b o1 n off1
        obtain rfl := k3 hm
        obtain ⟨w', w1, w2, w3⟩ := write_ok (P := P) hr hlp c3.l2 hcell hwr
        refine ⟨.tuple #[], w', ρ, ?_, .ofTuple .nil, w2, w3⟩
        obtain ⟨k, rfl⟩ : ∃ k, len = k + 1 := ⟨len - 1, by omega⟩
        simp [Builtin.clear_, run_underlying ht, z1, hzc, w1]

end
end Go.Cn
