/- Calls and iterations; and any operation that acts. -/
import Derived.Test.YtlnpgjfdlefmoaaGreatDoorCnReg
import Derived.Conc.MuLone
namespace Go.Cn
set_option linter.unusedVariables false
set_option linter.unusedSimpArgs false
set_option maxHeartbeats 200000

section
variable {P : Program} {ρ : Ren} {H : Heap} {w : World} {o : Oper} {a : Act} {e : Env}

theorem vrels_of_l2 {vs : List V} {l : List Operand} (h : L2 (fun v x => VRel ρ v (a.eval x)) vs l) : VRels ρ vs (l.toArray.map a.eval) := by
  induction h with
  | nil => simpa using VRels.nil
  | @cons x y xs ys h t ih =>
    refine ⟨by simpa using ih.1, fun i v v' hv hv' => ?_⟩
    cases i with
    | zero => simp at hv hv'; subst hv; subst hv'; exact h
    | succ i => exact ih.2 i v v' (by simpa using hv) (by simpa using hv')

theorem run_enter {f : FuncId} (hf : enters P f = true) (args : Array Value) (w : World) : (callFunc f args).run P w = .ok (.enter f args) w := by
  unfold enters at hf
  split at hf
  case h_2 => cases hf
  rename_i fn hfn
  simp only [Bool.not_eq_true', Bool.or_eq_false_iff] at hf
  obtain ⟨h1, h2⟩ := hf
  have h1' : fn.name ≠ "runtime.NumGoroutine" := by simpa using h1
  cases hb : fn.body with
  | none => rw [hb] at h2; cases h2
  | some c => simp [callFunc, hfn, h1', hb]

theorem choose_ok {n : Nat} (hn : 0 < n) (w : World) : ∃ (j : Nat) (w1 : World), j < n ∧ (w1 = w ∨ w1 = w.drew) ∧ (choose (Question.mapNext n)).run P w = .ok j w1 := by
  by_cases hf : n ≤ 1
  · exact ⟨0, w, by omega, Or.inl rfl, by simp [choose, Sem.run, Question.forced, hf]⟩
  · exact ⟨_, w.drew, Nat.mod_lt _ (by omega), Or.inr rfl, by
      simp only [choose, Sem.run, Question.forced, decide_eq_true_eq, hf, if_false, Question.cut]
      rfl⟩

theorem Ext.of_same {w' : World} (h : w'.heap = w.heap) (ho : w'.os = w.os) (hout : w'.output = w.output) : Ext ρ H w ρ H w' where
  stay _ _ := .inl rfl
  out _ _ h := ⟨h, rfl⟩
  next := Nat.le_refl _
  size := by rw [h]; exact Nat.le_refl _
  frame _ _ _ := by rw [h]
  old id o n es b h _ := ⟨id, o, n, es, h⟩
  os := ho
  output := hout

theorem nxt_ok {x : Operand} (hop : o.op = .next x false) {vs : List V} {K : V → Heap → Prop} (hl : L2 (fun v x => VRel ρ v (a.eval x)) vs [x]) (hr : Rel ρ H w) (hk : ActT P .nxt vs H K) :
    ∃ v' w' ρ' v H', (execOp a.eval o).run P w = .ok (.value v') w' ∧ VRel ρ' v v' ∧ Rel ρ' H' w' ∧ Ext ρ H w ρ' H' w' ∧ K v H' := by
  obtain ⟨v, rfl, hv⟩ := hl.one
  simp only [ActT] at hk
  split at hk
  case h_2 => cases hk
  rename_i it heq
  simp at heq; subst heq
  unfold nextV at hk
  split at hk
  case h_2 => cases hk
  rename_i m since seen stepped hb
  split at hk
  case h_2 => cases hk
  rename_i l clock hm
  obtain ⟨c1, c2, c3⟩ := hk
  obtain ⟨b, bm, n, es, rm, nm, em, l', e1, h1, h2, h3, h4, h5⟩ := iterLive hr hv hb hm
  have o1 : ∀ w1 : World, w1.heap = w.heap → (getObj b).run P w1 = .ok (.mapIter (some bm) since seen.toArray stepped) w1 := fun w1 e => run_getObj (by rw [e]; exact h2) (by intros; simp)
  have o2 : (getObj bm).run P w = .ok _ w := run_getObj h4 (by intros; simp)
  -- entry by entry
  have back : ∀ e' ∈ l', ∃ x ∈ l, VRel ρ x.1 e'.key ∧ VRel ρ x.2.1 e'.val ∧ e'.born = x.2.2 := by
    intro e' he'
    obtain ⟨i, hi, hie⟩ := Array.mem_iff_getElem.1 he'
    have hi' : i < l.length := by rw [h5.1]; exact hi
    obtain ⟨y, g1, g2, g3, g4⟩ := h5.2 i l[i].1 l[i].2.1 l[i].2.2 (by simp [hi'])
    have : y = e' := by
      have : l'[i]? = some e' := by simp [hi, hie]
      rw [this] at g1; exact (Option.some.inj g1).symm
    subst this
    exact ⟨l[i], List.getElem_mem hi', g2, g3, g4⟩
  have forth : ∀ x ∈ l, ∃ e' ∈ l', e'.born = x.2.2 := by
    intro x hx
    obtain ⟨i, hi, hie⟩ := List.mem_iff_getElem.1 hx
    obtain ⟨y, g1, g2, g3, g4⟩ := h5.2 i x.1 x.2.1 x.2.2 (by simp [hi, hie])
    exact ⟨y, Array.mem_of_getElem? g1, g4⟩
  have test : (!seen.toArray.isEmpty && !l'.isEmpty && l'.all fun e => decide (e.born ≥ stepped)) = false := by
    rcases c1 with c | c | c
    · simp [c]
    · have : l' = #[] := by
        apply Array.eq_empty_of_size_eq_zero
        rw [← h5.1, c]; rfl
      simp [this]
    · have : (l'.all fun e => decide (e.born ≥ stepped)) = false := by
        rw [Bool.eq_false_iff]
        intro hall
        refine c fun x hx => ?_
        obtain ⟨e', he', hb'⟩ := forth x hx
        have := Array.all_eq_true_iff_forall_mem.1 hall e' he'
        simp at this
        omega
      simp [this]
  -- what is left
  generalize hL : l'.filter (fun e => !seen.toArray.contains e.born) = L at *
  have inL : ∀ e' ∈ L, ∃ x ∈ l.filter (fun e => !seen.contains e.2.2), VRel ρ x.1 e'.key ∧ VRel ρ x.2.1 e'.val ∧ e'.born = x.2.2 := by
    intro e' he'
    rw [← hL] at he'
    obtain ⟨q1, q2⟩ := Array.mem_filter.1 he'
    obtain ⟨x, g1, g2, g3, g4⟩ := back e' q1
    refine ⟨x, List.mem_filter.2 ⟨g1, ?_⟩, g2, g3, g4⟩
    rw [← g4]; simpa using q2
  have oldE : (L.filter fun e => decide (e.born < since)).isEmpty = true → (l.filter fun e => !seen.contains e.2.2).filter (fun e => decide (e.2.2 < since)) = [] := by
    intro he
    rw [List.filter_eq_nil_iff]
    intro x hx hlt
    obtain ⟨q1, q2⟩ := List.mem_filter.1 hx
    obtain ⟨e', g1, g2⟩ := forth x q1
    have : e' ∈ L.filter (fun e => decide (e.born < since)) := by
      rw [Array.mem_filter, ← hL, Array.mem_filter]
      refine ⟨⟨g1, ?_⟩, ?_⟩
      · rw [g2]; simpa using q2
      · rw [g2]; exact hlt
    rw [Array.isEmpty_iff] at he
    rw [he] at this
    simp at this
  generalize hC : (if (L.filter fun e => decide (e.born < since)).isEmpty = true then #[none] else #[]) ++ ((L.filter fun e => decide (e.born < since)) ++ L.filter fun e => decide (e.born ≥ since)).map some = C
  have hC0 : 0 < C.size := by
    rw [← hC]
    split
    · rw [Array.size_append]
      exact Nat.lt_of_lt_of_le Nat.one_pos (Nat.le_add_right 1 _)
    · rename_i h
      simp only [Array.isEmpty_iff] at h
      have : 0 < (L.filter fun e => decide (e.born < since)).size := by
        rcases Nat.eq_zero_or_pos (L.filter fun e => decide (e.born < since)).size with z | z
        · exact absurd (Array.eq_empty_of_size_eq_zero z) h
        · exact z
      simp
      omega
  obtain ⟨j, w1, hj, hw1, hch⟩ := choose_ok (P := P) hC0 w
  have hw1h : w1.heap = w.heap := by rcases hw1 with rfl | rfl <;> rfl
  have hw1o : w1.os = w.os := by rcases hw1 with rfl | rfl <;> rfl
  have hw1p : w1.output = w.output := by rcases hw1 with rfl | rfl <;> rfl
  have hr1 : Rel ρ H w1 := hr.of_heap hw1h
  have hX1 : Ext ρ H w ρ H w1 := Ext.of_same hw1h hw1o hw1p
  have hrun : (execOp a.eval o).run P w = ((match C[j]? with
      | some (some e) => do
        setObj b (.mapIter (some bm) since (seen.toArray.push e.born) clock)
        pure (.value (.tuple #[.bool true, e.key, e.val]))
      | some none => pure (.value (.tuple #[.bool false]))
      | none => stuck "Next: no such candidate" : Sem Next)).run P w1 := by
    simp only [execOp, hop, Instr.next, e1, Sem.run_bind, o1 w rfl, Result.andThen_ok, o2, test, Bool.false_eq_true, if_false, hL, hC, hch]
    cases C[j]? with
    | none => simp
    | some y => cases y with
      | none => simp
      | some y =>
        simp
        generalize Sem.run P (setObj b _) w1 = r
        cases r <;> rfl
  rw [hrun]
  have hCj : C[j]? = some C[j] := by simp [hj]
  rw [hCj]
  have hmem : C[j] ∈ C := by simp
  cases hc : C[j] with
  | none =>
    refine ⟨_, w1, ρ, _, H, rfl, .ofTuple (cs := [.bool false]) ⟨rfl, fun i u u' hu hu' => ?_⟩, hr1, hX1, c2 (oldE ?_)⟩
    · match i with
      | 0 => simp at hu hu'; subst hu; subst hu'; exact .bool _
      | i + 1 => simp at hu
    · rw [hc, ← hC] at hmem
      rcases Array.mem_append.1 hmem with h | h
      · split at h
        · assumption
        · simp at h
      · simp at h
  | some e' =>
    have he' : e' ∈ L := by
      rw [hc, ← hC] at hmem
      rcases Array.mem_append.1 hmem with h | h
      · split at h <;> simp at h
      · simp only [Array.mem_map, Option.some.injEq, exists_eq_right, Array.mem_append, Array.mem_filter] at h
        rcases h with h | h <;> exact h.1
    obtain ⟨x, g1, g2, g3, g4⟩ := inL e' he'
    have hso : (setObj b (.mapIter (some bm) since (seen.toArray.push e'.born) clock)).run P w1 = .ok () _ := run_setObj (by rw [hw1h]; exact h2) (by intros; simp)
    have hset := rel_set hr1 h1 (w' := World.setBlk w1 b (.mapIter (some bm) since (seen.toArray.push e'.born) clock)) rfl rfl rfl (B := .iter m since (seen ++ [x.2.2]) clock)
      ⟨rfl, rfl, bm, by
        have := hr1.lt h1
        simp [World.setBlk, this, g4], .inr ⟨rm, nm, em, h3⟩⟩
    refine ⟨_, _, ρ, _, _, by simp only [Sem.run_bind, hso, Result.andThen_ok]; rfl, .ofTuple (cs := [.bool true, x.1, x.2.1]) ⟨rfl, fun i u u' hu hu' => ?_⟩, hset.1, hX1.trans hset.2, c3 x g1⟩
    match i with
    | 0 => simp at hu hu'; subst hu; subst hu'; exact .bool _
    | 1 => simp at hu hu'; subst hu; subst hu'; exact g2
    | 2 => simp at hu hu'; subst hu; subst hu'; exact g3
    | i + 3 => simp at hu

/-- The kinds that act elsewhere: calls and iterations. -/
def Kind.late : Kind → Bool
  | .nxt | .bad | .call _ | .callv => true
  | _ => false

theorem late_inv {k : Kind} {ys : List Opd} (hc : cop P o = some (k, ys)) (hk : k.late = true) :
    (∃ x, o.op = .next x false ∧ mono .nxt [x] = some (k, ys)) ∨
    (∃ c f, o.op = .call c ∧ c.callee = .value (.func f) ∧ enters P f = true ∧ mono (.call f) c.args.toList = some (k, ys)) ∨
    (∃ c t, o.op = .call c ∧ c.callee = .value (.tmp t) ∧ mono .callv (.tmp t :: c.args.toList) = some (k, ys)) := by
  have no : ∀ {k' : Kind} {l : List Operand}, mono k' l = some (k, ys) → k'.late ≠ false := by
    intro k' l h h'
    obtain ⟨rfl, _⟩ := mono_some h
    rw [h'] at hk
    cases hk
  cases hop : o.op <;> simp only [cop, hop] at hc
  case store t x y =>
    split at hc
    case h_2 => cases hc
    exact absurd rfl (no hc)
  case mapUpdate t m k' x =>
    split at hc
    case h_2 => cases hc
    obtain ⟨_, _, h⟩ := Option.bind_eq_some_iff.1 hc
    obtain ⟨_, _, h⟩ := Option.bind_eq_some_iff.1 h
    exact absurd rfl (no h)
  case insert t m k' x =>
    split at hc
    case h_2 => cases hc
    obtain ⟨_, _, h⟩ := Option.bind_eq_some_iff.1 hc
    obtain ⟨_, _, h⟩ := Option.bind_eq_some_iff.1 h
    exact absurd rfl (no h)
  case call c =>
    split at hc
    · split at hc
      case h_2 => cases hc
      split at hc
      case h_5 => cases hc
      all_goals exact absurd rfl (no hc)
    · split at hc
      case h_2 => cases hc
      split at hc
      case h_2 => cases hc
      exact absurd rfl (no hc)
    · split at hc
      case h_2 => cases hc
      split at hc
      case h_3 => cases hc
      · split at hc
        case h_2 => cases hc
        split at hc
        case isFalse => cases hc
        exact absurd rfl (no hc)
      · split at hc
        case h_2 => cases hc
        split at hc
        case isFalse => cases hc
        exact absurd rfl (no hc)
    · split at hc
      case h_2 => cases hc
      split at hc
      case h_2 => cases hc
      split at hc
      case h_2 => cases hc
      exact absurd rfl (no hc)
    · split at hc
      case h_2 => cases hc
      split at hc
      case h_2 => cases hc
      obtain ⟨_, _, h⟩ := Option.bind_eq_some_iff.1 hc
      obtain ⟨_, _, h⟩ := Option.bind_eq_some_iff.1 h
      exact absurd rfl (no h)
    · split at hc
      case h_2 => cases hc
      split at hc
      case h_2 => cases hc
      split at hc
      case h_2 => cases hc
      split at hc
      case isFalse => cases hc
      exact absurd rfl (no hc)
    · split at hc
      case h_2 => cases hc
      exact absurd rfl (no hc)
    · split at hc
      case h_2 => cases hc
      exact absurd rfl (no hc)
    · rename_i f hcal
      split at hc
      case h_2 => cases hc
      rename_i fn hfn
      split at hc
      case isTrue => cases hc
      rename_i hcond
      refine .inr (.inl ⟨c, f, rfl, hcal, ?_, hc⟩)
      simp only [enters, hfn, Bool.not_eq_true']
      exact Bool.eq_false_iff.2 hcond
    · rename_i t hcal
      exact .inr (.inr ⟨c, t, rfl, hcal, hc⟩)
    · cases hc
  case move x => exact absurd rfl (no hc)
  case assign x => exact absurd rfl (no hc)
  case pick c x y => exact absurd rfl (no hc)
  case nilCheck x => exact absurd rfl (no hc)
  case alloc t => obtain ⟨_, _, h⟩ := Option.map_eq_some_iff.1 hc; cases h; cases hk
  case box t x => exact absurd rfl (no hc)
  case build t parts =>
    split at hc
    case h_2 => cases hc
    obtain ⟨_, _, h⟩ := Option.map_eq_some_iff.1 hc; cases h; cases hk
  case buildSlice t len parts =>
    split at hc
    case h_2 => cases hc
    split at hc
    case h_2 => cases hc
    split at hc
    case isFalse => cases hc
    obtain ⟨_, _, h⟩ := Option.map_eq_some_iff.1 hc; cases h; cases hk
  case load t x =>
    split at hc
    case h_3 => cases hc
    all_goals exact absurd rfl (no hc)
  case binOp op t x y u =>
    split at hc
    all_goals first | (cases hc; done) | skip
    · exact absurd rfl (no hc)
    · exact absurd rfl (no hc)
    · exact absurd rfl (no hc)
    · exact absurd rfl (no hc)
    · split at hc
      · exact absurd rfl (no hc)
      · split at hc
        case h_2 => cases hc
        split at hc
        case isFalse => cases hc
        exact absurd rfl (no hc)
    · split at hc
      · exact absurd rfl (no hc)
      · split at hc
        case h_2 => cases hc
        split at hc
        case isFalse => cases hc
        exact absurd rfl (no hc)
    · split at hc
      case isFalse => cases hc
      exact absurd rfl (no hc)
    · split at hc
      case isFalse => cases hc
      exact absurd rfl (no hc)
    · split at hc
      case isFalse => cases hc
      exact absurd rfl (no hc)
    · split at hc
      case isFalse => cases hc
      exact absurd rfl (no hc)
    all_goals
      obtain ⟨_, _, h⟩ := Option.bind_eq_some_iff.1 hc
      exact absurd rfl (no h)
  case unOp op t x => exact absurd rfl (no hc)
  case convert s d x =>
    split at hc
    case h_4 => cases hc
    · exact absurd rfl (no hc)
    · split at hc
      case isFalse => cases hc
      exact absurd rfl (no hc)
    · split at hc
      case isFalse => cases hc
      exact absurd rfl (no hc)
  case makeInterface t x =>
    split at hc
    case h_1 => cases hc
    case h_2 => cases hc
    exact absurd rfl (no hc)
  case makeFunc fn first captured =>
    cases fn with
    | func f =>
      simp only at hc
      split at hc
      case isFalse => cases hc
      exact absurd rfl (no hc)
    | _ => simp at hc
  case makeMap t r =>
    cases r with
    | none => cases hc; cases hk
    | some _ => simp at hc
  case makeSlice t l c =>
    split at hc
    case h_2 => cases hc
    split at hc
    case h_2 => cases hc
    split at hc
    case isFalse => cases hc
    exact absurd rfl (no hc)
  case slice t x lo hi mx =>
    split at hc
    case h_3 => cases hc
    · split at hc
      case isTrue => cases hc
      exact absurd rfl (no hc)
    · split at hc
      case h_2 => cases hc
      split at hc
      · split at hc
        case isFalse => cases hc
        exact absurd rfl (no hc)
      · exact absurd rfl (no hc)
  case fieldAddr s x f =>
    split at hc
    case h_2 => cases hc
    split at hc
    case h_2 => cases hc
    split at hc
    case h_2 => cases hc
    split at hc
    case isTrue => cases hc
    exact absurd rfl (no hc)
  case field t x f =>
    split at hc
    case h_2 => cases hc
    split at hc
    case h_2 => cases hc
    split at hc
    case h_2 => cases hc
    exact absurd rfl (no hc)
  case indexAddr t x i =>
    split at hc
    case h_3 => cases hc
    all_goals
      split at hc
      case h_2 => cases hc
      exact absurd rfl (no hc)
  case index t x i =>
    split at hc
    case h_3 => cases hc
    · split at hc
      case h_2 => cases hc
      exact absurd rfl (no hc)
    · exact absurd rfl (no hc)
  case lookup t x i ok =>
    split at hc
    case h_2 => cases hc
    split at hc
    case h_2 => cases hc
    exact absurd rfl (no hc)
  case range t x =>
    split at hc
    case h_2 => cases hc
    exact absurd rfl (no hc)
  case next x s =>
    split at hc
    case isTrue => cases hc
    rename_i hs
    simp at hs
    subst hs
    exact .inl ⟨x, rfl, hc⟩
  case entry x => exact absurd rfl (no hc)
  case extract x i => exact absurd rfl (no hc)
  all_goals cases hc


/-- An operation that acts: what is handed on. -/
theorem act_sim {k : Kind} {ys : List Opd} (hc : cop P o = some (k, ys)) (hk : k.acts = true) (he : ERel ρ e a) {vs : List V} (hv : evs e ys = some vs) (hr : Rel ρ H w) {K : V → Heap → Prop} (hK : ActT P k vs H K)
    {next : Act → World → Prop} {Q : Exit → Act → World → Prop} (hn : ∀ ρ' v v' H' w', VRel ρ' v v' → Rel ρ' H' w' → Ext ρ H w ρ' H' w' → K v H' → next (a.put o.dst v') w') : o.wp P a w next Q := by
  cases hp : k.plain with
  | true =>
    have : ∃ v H', k.ef H vs = some (v, H') ∧ K v H' := by
      cases k <;> first | (simp [Kind.plain] at hp; done) | skip
      all_goals
        simp only [ActT] at hK
        split at hK
        case h_2 => cases hK
        exact ⟨_, _, by assumption, hK⟩
    obtain ⟨v, H', h1, h2⟩ := this
    obtain ⟨n, v', w', ρ', e1, e2, e3, e4, e5⟩ := ef_sim hc hp he hv hr h1
    unfold Oper.wp
    rw [e1]
    cases n <;> first | (cases e2; done) | skip
    · cases e2; exact hn ρ' v _ H' w' e3 e4 e5 h2
    · cases e2; exact hn ρ' v _ H' w' e3 e4 e5 h2
  | false =>
    have hl : k.late = true := by cases k <;> first | rfl | (simp [Kind.acts] at hk; done) | (simp [Kind.plain] at hp; done)
    rcases late_inv hc hl with ⟨x, hop, hm⟩ | ⟨c, f, hop, hcal, hf, hm⟩ | ⟨c, t, hop, hcal, hm⟩
    · obtain ⟨rfl, hl2⟩ := mono_l2 hm he hv
      obtain ⟨v', w', ρ', v, H', e1, e2, e3, e4, e5⟩ := nxt_ok hop hl2 hr hK
      unfold Oper.wp
      rw [e1]
      exact hn ρ' v v' H' w' e2 e3 e4 e5
    · obtain ⟨rfl, hl2⟩ := mono_l2 hm he hv
      have hrun : (execOp a.eval o).run P w = .ok (.enter f (c.args.map a.eval)) w := by
        simp only [execOp, hop, resolve, hcal, Act.eval, Deferred.ofValue]
        simpa [invoke] using run_enter hf _ w
      unfold Oper.wp
      rw [hrun, Oper.upon_enter]
      have hargs := vrels_of_l2 hl2
      refine Calls.mono (hK ρ w _ hr (by simpa using hargs)) ?_
      rintro e' w' ⟨ρ', v, v', H', rfl, h1, h2, h3, h4⟩
      exact hn ρ' v v' H' w' h1 h2 h3 h4
    · obtain ⟨rfl, hl2⟩ := mono_l2 hm he hv
      obtain ⟨u, us, rfl, hu, hus⟩ := hl2.cons_inv
      simp only [ActT] at hK
      split at hK
      case h_2 => cases hK
      rename_i f caps rest heq
      cases heq
      obtain ⟨hf, hK⟩ := hK
      generalize hx : a.eval (.tmp t) = x at hu
      cases hu with
      | @func f caps caps' hn1 hn2 =>
        have hrun : (execOp a.eval o).run P w = .ok (.enter f (c.args.map a.eval ++ caps')) w := by
          simp only [execOp, hop, resolve, hcal, hx, Deferred.ofValue]
          simpa [invoke] using run_enter hf _ w
        unfold Oper.wp
        rw [hrun, Oper.upon_enter]
        have hargs := vrels_of_l2 hus
        refine Calls.mono (hK ρ w _ hr (VRels.append (by simpa using hargs) ⟨hn1, hn2⟩)) ?_
        rintro e' w' ⟨ρ', v, v', H', rfl, h1, h2, h3, h4⟩
        exact hn ρ' v v' H' w' h1 h2 h3 h4

end
end Go.Cn
