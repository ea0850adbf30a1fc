/- Code made ready by a function, and why it stands for the code. -/
import Derived.Test.YtlnpgjfdlefmoaaGreatDoorCnCode
namespace Go.Cn
set_option linter.unusedVariables false
set_option linter.unusedSimpArgs false
set_option maxHeartbeats 400000

/-! ### Who must be ahead of whom -/

/-- All that must be ahead of an operation, one bit each. -/
def ahead (M : Nat → Nat) (o : Oper) : Nat :=
  o.after.toList.foldl (fun s x => if Region.binds .any x then s ||| 2 ^ x.on ||| M x.on else s) 0

def masks (ops : Array Oper) : List Nat :=
  ops.toList.foldl (fun ms o => ms ++ [ahead (fun i => ms.getD i 0) o]) []

theorem ahead_spec (M : Nat → Nat) (o : Oper) {j : Nat} (h : (ahead M o).testBit j = true) : ∃ x ∈ o.after, Region.binds .any x = true ∧ (x.on = j ∨ (M x.on).testBit j = true) := by
  unfold ahead at h
  have key : ∀ (l : List Edge) (s : Nat), (l.foldl (fun s x => if Region.binds .any x then s ||| 2 ^ x.on ||| M x.on else s) s).testBit j = true →
      s.testBit j = true ∨ ∃ x ∈ l, Region.binds .any x = true ∧ (x.on = j ∨ (M x.on).testBit j = true) := by
    intro l
    induction l with
    | nil => intro s h; exact .inl h
    | cons x l ih =>
      intro s h
      rcases ih _ h with h1 | ⟨y, hy, h2⟩
      · dsimp only at h1
        split at h1
        · rename_i hb
          rw [Nat.testBit_or, Nat.testBit_or, Bool.or_eq_true, Bool.or_eq_true] at h1
          rcases h1 with (h1 | h1) | h1
          · exact .inl h1
          · rw [Nat.testBit_two_pow] at h1
            exact .inr ⟨x, by simp, hb, .inl (by simpa using h1)⟩
          · exact .inr ⟨x, by simp, hb, .inr h1⟩
        · exact .inl h1
      · exact .inr ⟨y, by simp [hy], h2⟩
  rcases key _ _ h with h1 | ⟨x, hx, h2⟩
  · simp at h1
  · exact ⟨x, by simpa using hx, h2⟩

/-! ### One operation -/

def guardOf (ops : Array Oper) (o : Oper) : Option (Option (Nat × Bool)) :=
  match o.guard with
  | none => some none
  | some (j, want) => match (ops[j]?).bind (·.dst) with
    | some d => some (some (d, want))
    | none => none

def dstOk (N : Nat) : Option Nat → Bool
  | some d => decide (d < N)
  | none => true

def mkIt (P : Program) (N : Nat) (ops : Array Oper) (i : Nat) (keep : List Nat) : Option It :=
  match ops[i]? with
  | none => none
  | some o => match guardOf ops o with
    | some g => if dstOk N o.dst then (match cop P o with
        | some (k, ys) => some ⟨i, o.dst, g, k, ys, keep⟩
        | none => some ⟨i, o.dst, g, .bad, [], keep⟩) else none
    | none => none

theorem mkIt_ok {P : Program} {N : Nat} {ops : Array Oper} {i : Nat} {keep : List Nat} {it : It} (h : mkIt P N ops i keep = some it) : it.i = i ∧ ∃ o, ops[it.i]? = some o ∧ ItOk P ops N o it := by
  unfold mkIt at h
  split at h
  · cases h
  rename_i o ho
  split at h
  case h_2 => cases h
  rename_i g hg
  split at h
  case isFalse => cases h
  rename_i hlt
  have hd : ∀ d, o.dst = some d → d < N := by
    intro d hd
    rw [hd] at hlt
    simpa [dstOk] using hlt
  have hgd : gOk ops o g := by
    unfold guardOf at hg
    cases hgd : o.guard with
    | none => rw [hgd] at hg; cases hg; exact hgd
    | some jw =>
      obtain ⟨j, want⟩ := jw
      rw [hgd] at hg
      simp only at hg
      split at hg
      case h_2 => cases hg
      rename_i d hd
      cases hg
      exact ⟨j, hgd, hd⟩
  split at h
  · rename_i k ys hc
    cases h
    exact ⟨rfl, o, ho, rfl, hd, hgd, .inr hc⟩
  · cases h
    exact ⟨rfl, o, ho, rfl, hd, hgd, .inl rfl⟩

def mkIts (P : Program) (N : Nat) (ops : Array Oper) : List (Nat × List Nat) → Option (List It)
  | [] => some []
  | (i, keep) :: r => match mkIt P N ops i keep, mkIts P N ops r with
    | some it, some L => some (it :: L)
    | _, _ => none

theorem mkIts_ok {P : Program} {N : Nat} {ops : Array Oper} : ∀ {l : List (Nat × List Nat)} {L : List It}, mkIts P N ops l = some L → L.map (·.i) = l.map (·.1) ∧ ∀ it ∈ L, ∃ o, ops[it.i]? = some o ∧ ItOk P ops N o it
  | [], L, h => by cases h; exact ⟨rfl, by simp⟩
  | (i, keep) :: r, L, h => by
    simp only [mkIts] at h
    split at h
    case h_2 => cases h
    rename_i it L' h1 h2
    cases h
    obtain ⟨a, b⟩ := mkIt_ok h1
    obtain ⟨c, d⟩ := mkIts_ok h2
    refine ⟨by simp [a, c], fun y hy => ?_⟩
    rcases List.mem_cons.1 hy with rfl | hy
    · exact b
    · exact d y hy

/-! ### Our order -/

/-- The next one: the first that does not act, if there is one that is ready. -/
def pickNext (P : Program) (ops : Array Oper) (ms : List Nat) (done : Nat) (acts : List Bool) (left : List Nat) : Option Nat :=
  let ready := left.filter fun i => (ms.getD i 0 ||| done) == done
  match ready.find? fun i => !acts.getD i true with
  | some i => some i
  | none => ready.head?

def orderOf (P : Program) (ops : Array Oper) (ms : List Nat) (acts reads : List Bool) : Nat → Nat → List Nat → List Nat → List (Nat × List Nat)
  | 0, _, _, _ => []
  | fuel + 1, done, rds, left => match pickNext P ops ms done acts left with
    | none => []
    | some i => (i, if acts.getD i true then rds.filter (fun j => !(ms.getD i 0).testBit j) else []) :: orderOf P ops ms acts reads fuel (done ||| 2 ^ i) (if reads.getD i false then rds ++ [i] else rds) (left.filter (· != i))

def kindOf (P : Program) (o : Oper) : Option Kind := (cop P o).map (·.1)

def mkDraw (P : Program) (N : Nat) (ops : Array Oper) : Option (List It) :=
  let ms := masks ops
  let ks := ops.toList.map (kindOf P)
  let acts := ks.map fun k => match k with | some k => k.acts | none => true
  let reads := ks.map fun k => match k with | some k => k.reads | none => false
  mkIts P N ops (orderOf P ops ms acts reads ops.size 0 [] (List.range ops.size))

/-- Each stands behind all that must be ahead of it. -/
def topoOk (ops : Array Oper) : Nat → List It → Bool
  | _, [] => true
  | done, it :: L => (match ops[it.i]? with
      | some o => o.after.toList.all fun x => !Region.binds .any x || done.testBit x.on
      | none => false) && topoOk ops (done ||| 2 ^ it.i) L

def pairsOk (M : Nat → Nat) : List It → Bool
  | [] => true
  | x :: L => L.all (fun y => pairOk M x y) && pairsOk M L

def checkDraw (ops : Array Oper) (L : List It) : Bool :=
  let ms := masks ops
  let M := fun i => ms.getD i 0
  L.length == ops.size && (List.range ops.size).all (fun i => L.any fun it => it.i == i) && decide ((L.map (·.i)).Nodup) &&
    (List.range ops.size).all (fun i => match ops[i]? with | some o => M i == ahead M o | none => false) && topoOk ops 0 L && pairsOk M L

theorem topoOk_spec {ops : Array Oper} : ∀ {L : List It} {done : Nat} {B0 : List It}, topoOk ops done L = true → (∀ j, done.testBit j = true → ∃ y ∈ B0, y.i = j) →
    ∀ A it B, L = A ++ it :: B → ∀ o, ops[it.i]? = some o → ∀ x ∈ o.after, Region.binds .any x = true → ∃ y ∈ B0 ++ A, y.i = x.on
  | [], done, B0, h, hd, A, it, B, hL, o, ho, x, hx, hb => by simp at hL
  | z :: L, done, B0, h, hd, A, it, B, hL, o, ho, x, hx, hb => by
    simp only [topoOk, Bool.and_eq_true] at h
    obtain ⟨h1, h2⟩ := h
    cases A with
    | nil =>
      simp only [List.nil_append, List.cons.injEq] at hL
      obtain ⟨rfl, rfl⟩ := hL
      rw [ho] at h1
      have := List.all_eq_true.1 h1 x (by simpa using hx)
      simp only [hb, Bool.not_true, Bool.false_or] at this
      obtain ⟨y, hy, hyx⟩ := hd _ this
      exact ⟨y, by simpa using hy, hyx⟩
    | cons z' A =>
      simp only [List.cons_append, List.cons.injEq] at hL
      obtain ⟨rfl, hL⟩ := hL
      have hd' : ∀ j, (done ||| 2 ^ z.i).testBit j = true → ∃ y ∈ B0 ++ [z], y.i = j := by
        intro j hj
        rw [Nat.testBit_or, Bool.or_eq_true] at hj
        rcases hj with hj | hj
        · obtain ⟨y, hy, hyj⟩ := hd j hj
          exact ⟨y, by simp [hy], hyj⟩
        · rw [Nat.testBit_two_pow] at hj
          exact ⟨z, by simp, by simpa using hj⟩
      obtain ⟨y, hy, hyx⟩ := topoOk_spec h2 hd' A it B hL o ho x hx hb
      exact ⟨y, by simpa using hy, hyx⟩

theorem pairsOk_spec {M : Nat → Nat} : ∀ {L : List It}, pairsOk M L = true → L.Pairwise fun x y => pairOk M x y = true
  | [], _ => .nil
  | x :: L, h => by
    simp only [pairsOk, Bool.and_eq_true] at h
    exact .cons (fun y hy => List.all_eq_true.1 h.1 y hy) (pairsOk_spec h.2)

theorem checkDraw_ok {P : Program} {N : Nat} {ops : Array Oper} {l : List (Nat × List Nat)} {L : List It} (h : mkIts P N ops l = some L) (hc : checkDraw ops L = true) : Good P ops L (fun i => (masks ops).getD i 0) N := by
  simp only [checkDraw, Bool.and_eq_true, beq_iff_eq, decide_eq_true_eq] at hc
  obtain ⟨⟨⟨⟨⟨h1, h2⟩, h3⟩, h4⟩, h5⟩, h6⟩ := hc
  refine ⟨(mkIts_ok h).2, ?_, h3, h1, ?_, ?_, pairsOk_spec h6⟩
  · intro i hi
    have := List.all_eq_true.1 h2 i (List.mem_range.2 hi)
    obtain ⟨it, hit, hii⟩ := List.any_eq_true.1 this
    exact ⟨it, hit, by simpa using hii⟩
  · intro i o ho j hj
    have hlt := (Array.getElem?_eq_some_iff.1 ho).1
    have := List.all_eq_true.1 h4 i (List.mem_range.2 hlt)
    rw [ho] at this
    simp only [beq_iff_eq] at this
    rw [this] at hj
    exact ahead_spec _ o hj
  · intro A it B hL o ho x hx hb
    obtain ⟨y, hy, hyx⟩ := topoOk_spec (B0 := []) h5 (by simp) A it B hL o ho x hx hb
    exact ⟨y, by simpa using hy, hyx⟩

/-! ### Code -/

def mkCode (P : Program) (N : Nat) : Code → Option AC
  | .skip => some .skip
  | .label _ => some .skip
  | .region _ ops true => match mkDraw P N ops with
    | some L => if checkDraw ops L then some (.reg L) else none
    | none => none
  | .region _ ops false => match mkIts P N ops ((List.range ops.size).map fun i => (i, [])) with
    | some L => some (.reg L)
    | none => none
  | .seq x y => match mkCode P N x, mkCode P N y with
    | some a, some b => some (.seq a b)
    | _, _ => none
  | .cond c x y => match opd c, mkCode P N x, mkCode P N y with
    | some d, some a, some b => some (.cond d a b)
    | _, _, _ => none
  | .block id x => match mkCode P N x with
    | some a => some (.block id a)
    | none => none
  | .loop x => match mkCode P N x with
    | some a => some (.loop a)
    | none => none
  | .exit id => some (.exit id)
  | .ret => some .ret
  | _ => none

theorem mkCode_ok {P : Program} {N : Nat} : ∀ {c : Code} {ac : AC}, mkCode P N c = some ac → Made P N c ac
  | .skip, ac, h => by cases h; exact .skip
  | .label l, ac, h => by cases h; exact .label l
  | .region id ops true, ac, h => by
    simp only [mkCode] at h
    split at h
    case h_2 => cases h
    rename_i L hL
    split at h
    case isFalse => cases h
    rename_i hc
    cases h
    exact .draw (checkDraw_ok hL hc)
  | .region id ops false, ac, h => by
    simp only [mkCode] at h
    split at h
    case h_2 => cases h
    rename_i L hL
    cases h
    obtain ⟨h1, h2⟩ := mkIts_ok hL
    refine .line ?_ h2
    rw [h1, List.map_map]
    exact List.map_id' _
  | .seq x y, ac, h => by
    simp only [mkCode] at h
    split at h
    case h_2 => cases h
    rename_i a b h1 h2
    cases h
    exact .seq (mkCode_ok h1) (mkCode_ok h2)
  | .cond c x y, ac, h => by
    simp only [mkCode] at h
    split at h
    case h_2 => cases h
    rename_i d a b h0 h1 h2
    cases h
    exact .cond h0 (mkCode_ok h1) (mkCode_ok h2)
  | .block id x, ac, h => by
    simp only [mkCode] at h
    split at h
    case h_2 => cases h
    rename_i a h1
    cases h
    exact .block (mkCode_ok h1)
  | .loop x, ac, h => by
    simp only [mkCode] at h
    split at h
    case h_2 => cases h
    rename_i a h1
    cases h
    exact .loop (mkCode_ok h1)
  | .exit id, ac, h => by cases h; exact .exit id
  | .ret, ac, h => by cases h; exact .ret
  | .rangeFunc .., ac, h => by cases h
  | .scope _, ac, h => by cases h
  | .goto _, ac, h => by cases h
  | .refuse _, ac, h => by cases h

/-- A function made ready: its code, its results' slots. -/
def mkFun (P : Program) (f : FuncId) : Option (AC × List Rv) :=
  match P.funcs[f]? with
  | none => none
  | some fn => match fn.body with
    | none => none
    | some c => match mkCode P fn.ntmps c, resRv P fn.results.toList with
      | some ac, some ts => some (ac, ts)
      | _, _ => none

theorem callT_fun {P : Program} (hm : P.follows .mixedOrders = true) {f : FuncId} {ac : AC} {ts : List Rv} (hf : mkFun P f = some (ac, ts)) {vs : List V} {H : Heap} {K : V → Heap → Prop}
    (h : acwp P ac (fun x e H' => match x with | .exit _ => False | _ => ∃ v, resOf H' e ts = some v ∧ K v H') (env0 0 vs) H) : CallT P f vs H K := by
  unfold mkFun at hf
  split at hf
  case h_1 => cases hf
  rename_i fn hfn
  split at hf
  case h_1 => cases hf
  rename_i c hb
  split at hf
  case h_2 => cases hf
  rename_i ac' ts' h1 h2
  cases hf
  exact callT_of hm hfn hb h2 (mkCode_ok h1) h

end Go.Cn
