/- Kinds over small whole numbers, reckoned the short way; where that does not serve, as ever. -/
import Derived.Test.YtlnpgjfdlefmoaaGreatDoorCnTree
namespace Go.Cn
set_option linter.unusedVariables false
set_option linter.unusedSimpArgs false

/-- Does a number fit into a kind, whatever its sign? -/
def fitK (k : IntKind) (n : Nat) : Bool :=
  match k with
  | .i64 => Nat.ble n (nat_lit 9223372036854775807)
  | .u64 => Nat.ble n (nat_lit 18446744073709551615)
  | .u32 => Nat.ble n (nat_lit 4294967295)
  | .u8 => Nat.ble n (nat_lit 255)
  | .i32 => Nat.ble n (nat_lit 2147483647)
  | .u16 => Nat.ble n (nat_lit 65535)
  | .i16 => Nat.ble n (nat_lit 32767)
  | .i8 => Nat.ble n (nat_lit 127)

theorem fitK_ok {k : IntKind} {n : Nat} (h : fitK k n = true) : k.wrap (.ofNat n) = .ofNat n := by
  cases k <;> (simp only [fitK] at h; have h := Nat.le_of_ble_eq_true h; simp [IntKind.wrap, IntKind.bits, IntKind.signed]; omega)

def sameK : IntKind → IntKind → Bool
  | .i64, .i64 | .u64, .u64 | .u32, .u32 | .u8, .u8 | .i32, .i32 | .u16, .u16 | .i16, .i16 | .i8, .i8 => true
  | _, _ => false

theorem sameK_ok {a b : IntKind} (h : sameK a b = true) : a = b := by
  cases a <;> cases b <;> first | rfl | cases h

def fBool (b : Bool) : Option Eff := some (.val (.bool b))
def fInt (k : IntKind) (n : Nat) : Option Eff := some (.val (.int k (.ofNat n)))

/-- Two numbers that are not negative. -/
def qArith (op : BinOp) (k : IntKind) (a b : Nat) : Option Eff :=
  match op with
  | .add => match fitK k (Nat.add a b) with
    | true => fInt k (Nat.add a b)
    | false => none
  | .sub => match Nat.ble b a with
    | true => match fitK k (Nat.sub a b) with
      | true => fInt k (Nat.sub a b)
      | false => none
    | false => none
  | .eql => fBool (Nat.beq a b)
  | .neq => fBool (Nat.beq a b).not
  | .lss => fBool (Nat.blt a b)
  | .leq => fBool (Nat.ble a b)
  | .gtr => fBool (Nat.blt b a)
  | .geq => fBool (Nat.ble b a)
  | _ => none

theorem qArith_ok {op : BinOp} {k : IntKind} {a b : Nat} {x : Eff} (h : qArith op k a b = some x) : (intBin op k (.ofNat a) (.ofNat b)).map .val = some x := by
  unfold qArith at h
  split at h
  · split at h
    · rename_i hf
      simp only [fInt, Option.some.injEq] at h
      have e : (Int.ofNat a + Int.ofNat b) = Int.ofNat (Nat.add a b) := rfl
      simp only [intBin, Option.map_some, e, fitK_ok hf, h]
    · cases h
  · split at h
    · rename_i hb
      have hb := Nat.le_of_ble_eq_true hb
      split at h
      · rename_i hf
        simp only [fInt, Option.some.injEq] at h
        have e : (Int.ofNat a - Int.ofNat b) = Int.ofNat (Nat.sub a b) := by
          show (a : Int) - (b : Int) = ((a - b : Nat) : Int)
          omega
        simp only [intBin, Option.map_some, e, fitK_ok hf, h]
      · cases h
    · cases h
  all_goals first
    | (cases h; done)
    | (simp only [fBool, Option.some.injEq] at h
       subst h
       simp only [intBin, Option.map_some])
  · congr 3
    rw [beq_eq]
    by_cases e : a = b
    · subst e; simp
    · simp [e]; omega
  · congr 3
    rw [beq_eq]
    by_cases e : a = b
    · subst e; simp
    · simp [e]; omega
  · congr 3
    show decide ((a : Int) < (b : Int)) = Nat.blt a b
    rw [Bool.eq_iff_iff, decide_eq_true_iff, Nat.blt_eq]
    omega
  · congr 3
    show decide ((a : Int) ≤ (b : Int)) = Nat.ble a b
    rw [Bool.eq_iff_iff, decide_eq_true_iff, Nat.ble_eq]
    omega
  · congr 3
    show decide ((a : Int) > (b : Int)) = Nat.blt b a
    rw [Bool.eq_iff_iff, decide_eq_true_iff, Nat.blt_eq]
    omega
  · congr 3
    show decide ((a : Int) ≥ (b : Int)) = Nat.ble b a
    rw [Bool.eq_iff_iff, decide_eq_true_iff, Nat.ble_eq]
    omega

/-- Bits of two numbers of an unsigned kind. -/
def uK : IntKind → Bool
  | .u8 | .u16 | .u32 | .u64 => true
  | _ => false

def qBits (op : BinOp) (k : IntKind) (a b : Nat) : Option Eff :=
  match uK k with
  | true => match fitK k a with
    | true => match fitK k b with
      | true => match op with
        | .and => fInt k (Nat.land a b)
        | .or => fInt k (Nat.lor a b)
        | .xor => fInt k (Nat.xor a b)
        | _ => none
      | false => none
    | false => none
  | false => none

theorem fitK_u {k : IntKind} (hu : uK k = true) {n : Nat} : fitK k n = true ↔ n < 2 ^ k.bits := by
  cases k <;> first | (cases hu; done) | (simp only [fitK, IntKind.bits, Nat.ble_eq]; omega)

theorem ofInt_nat (n a : Nat) (h : a < 2 ^ n) : (BitVec.ofInt n (Int.ofNat a)).toNat = a := by
  have e : BitVec.ofInt n (Int.ofNat a) = BitVec.ofNat n a := BitVec.ofInt_natCast ..
  rw [e, BitVec.toNat_ofNat, Nat.mod_eq_of_lt h]

theorem qBits_ok {op : BinOp} {k : IntKind} {a b : Nat} {x : Eff} (h : qBits op k a b = some x) : (intBin op k (.ofNat a) (.ofNat b)).map .val = some x := by
  unfold qBits at h
  split at h
  case h_2 => cases h
  rename_i hu
  split at h
  case h_2 => cases h
  rename_i ha
  split at h
  case h_2 => cases h
  rename_i hb
  rw [fitK_u hu] at ha hb
  split at h
  · have e : fitK k (a &&& b) = true := (fitK_u hu).2 (Nat.lt_of_le_of_lt Nat.and_le_left ha)
    simp only [intBin, Option.map_some, BitVec.toNat_and, ofInt_nat _ _ ha, ofInt_nat _ _ hb]
    rw [show ((a &&& b : Nat) : Int) = Int.ofNat (a &&& b) from rfl, fitK_ok e]
    exact h
  · have e : fitK k (a ||| b) = true := (fitK_u hu).2 (Nat.or_lt_two_pow ha hb)
    simp only [intBin, Option.map_some, BitVec.toNat_or, ofInt_nat _ _ ha, ofInt_nat _ _ hb]
    rw [show ((a ||| b : Nat) : Int) = Int.ofNat (a ||| b) from rfl, fitK_ok e]
    exact h
  · have e : fitK k (a ^^^ b) = true := (fitK_u hu).2 (Nat.xor_lt_two_pow ha hb)
    simp only [intBin, Option.map_some, BitVec.toNat_xor, ofInt_nat _ _ ha, ofInt_nat _ _ hb]
    rw [show ((a ^^^ b : Nat) : Int) = Int.ofNat (a ^^^ b) from rfl, fitK_ok e]
    exact h
  · cases h

def qShr : List V → Option Eff
  | [.int k (.ofNat a), .int k' (.ofNat b)] => match Nat.ble b (nat_lit 8) with
    | true => fInt k (Nat.shiftRight a b)
    | false => kBin .shr [.int k (.ofNat a), .int k' (.ofNat b)]
  | l => kBin .shr l

theorem qShr_ok {vs : List V} {x : Eff} (h : qShr vs = some x) : kBin .shr vs = some x := by
  unfold qShr at h
  split at h
  · rename_i k a k' b
    split at h
    · rename_i hb
      have hb := Nat.le_of_ble_eq_true hb
      have hm : min b k.bits = b := Nat.min_eq_left (Nat.le_trans hb (by cases k <;> simp [IntKind.bits]))
      have hn : ¬ (Int.ofNat b < 0) := Int.not_lt.2 (Int.natCast_nonneg b)
      have e1 : (Int.ofNat b).toNat = b := rfl
      simp only [kBin, binV]
      rw [if_neg hn]
      rw [e1, hm]
      rw [← h]
      simp only [Option.map_some, fInt]
      congr 3
      have e2 : (2 : Int) ^ b = ((2 ^ b : Nat) : Int) := by simp
      rw [e2]
      show ((a : Int)).fdiv ((2 ^ b : Nat) : Int) = ((a >>> b : Nat) : Int)
      rw [Nat.shiftRight_eq_div_pow]
      rw [Int.fdiv_eq_ediv_of_nonneg _ (Int.natCast_nonneg _)]
      exact (Int.natCast_ediv a (2 ^ b)).symm
    · exact h
  · exact h

/-- Is it one of the operations that are reckoned the short way? -/
def isQ : BinOp → Bool
  | .add | .sub | .eql | .neq | .lss | .leq | .gtr | .geq => true
  | _ => false

def isB : BinOp → Bool
  | .and | .or | .xor => true
  | _ => false

theorem binV_intBinB {op : BinOp} (hq : isB op = true) {k : IntKind} {a b : Int} : binV op (.int k a) (.int k b) = intBin op k a b := by
  cases op <;> first | (cases hq; done) | simp [binV]

theorem binV_intBin {op : BinOp} (hq : isQ op = true) {k : IntKind} {a b : Int} : binV op (.int k a) (.int k b) = intBin op k a b := by
  cases op <;> first | (cases hq; done) | simp [binV]

def qBin (op : BinOp) : List V → Option Eff
  | x :: l => match x with
    | .int k p => match p with
      | .ofNat a => match l with
        | y :: l' => match y with
          | .int k' p' => match p' with
            | .ofNat b => match l' with
              | [] => match sameK k k' with
                | true => match isQ op with
                  | true => match qArith op k a b with
                    | some r => some r
                    | none => kBin op [.int k (.ofNat a), .int k' (.ofNat b)]
                  | false => match isB op with
                    | true => match qBits op k a b with
                      | some r => some r
                      | none => kBin op [.int k (.ofNat a), .int k' (.ofNat b)]
                    | false => kBin op [.int k (.ofNat a), .int k' (.ofNat b)]
                | false => kBin op [.int k (.ofNat a), .int k' (.ofNat b)]
              | z :: l'' => none
            | .negSucc b => kBin op (.int k (.ofNat a) :: .int k' (.negSucc b) :: l')
          | y => kBin op (.int k (.ofNat a) :: y :: l')
        | [] => none
      | .negSucc a => kBin op (.int k (.negSucc a) :: l)
    | x => kBin op (x :: l)
  | [] => none

theorem qBin_ok {op : BinOp} {vs : List V} {x : Eff} (h : qBin op vs = some x) : kBin op vs = some x := by
  unfold qBin at h
  repeat' split at h
  all_goals first
    | exact h
    | (cases h; done)
    | skip
  · rename_i hk _ hq _ r hr
    cases h
    obtain rfl := sameK_ok hk
    have := qArith_ok hr
    simp only [kBin, binV_intBin hq]
    exact this
  · rename_i hk _ _ _ hq _ r hr
    cases h
    obtain rfl := sameK_ok hk
    have := qBits_ok hr
    simp only [kBin, binV_intBinB hq]
    exact this

def qCvI (k : IntKind) : List V → Option Eff
  | x :: l => match l with
    | [] => match x with
      | .int _ p => match p with
        | .ofNat a => match fitK k a with
          | true => fInt k a
          | false => some (.val (.int k (k.wrap (.ofNat a))))
        | .negSucc a => some (.val (.int k (k.wrap (.negSucc a))))
      | _ => none
    | _ :: _ => none
  | [] => none

theorem qCvI_ok {k : IntKind} {vs : List V} {x : Eff} (h : qCvI k vs = some x) : kCvI k vs = some x := by
  unfold qCvI at h
  repeat' split at h
  all_goals first
    | (cases h; done)
    | skip
  · rename_i hf
    simp only [fInt] at h
    simp only [kCvI, fitK_ok hf]
    exact h
  · exact h
  · exact h

def ofN : V → Option Nat
  | .int _ p => match p with
    | .ofNat a => some a
    | .negSucc _ => none
  | _ => none

theorem ofN_ok {v : V} {a : Nat} (h : ofN v = some a) : ∃ k, v = .int k (.ofNat a) := by
  unfold ofN at h
  split at h
  · split at h
    · cases h; exact ⟨_, rfl⟩
    · cases h
  · cases h

/-- An element's place. -/
def qIaS (esz : Nat) : List V → Option Eff
  | [.slice (some (id, o)) len _ _, v] => match ofN v with
    | some i => match Nat.blt i len with
      | true => some (.val (.ptr (some (id, Nat.add o (Nat.mul i esz)))))
      | false => none
    | none => none
  | _ => none

theorem qIaS_ok {esz : Nat} {vs : List V} {x : Eff} (h : qIaS esz vs = some x) : kIaS esz vs = some x := by
  unfold qIaS at h
  split at h
  case h_2 => cases h
  split at h
  case h_2 => cases h
  rename_i i hi
  obtain ⟨k, rfl⟩ := ofN_ok hi
  split at h
  case h_2 => cases h
  rename_i hl
  rw [Nat.blt_eq] at hl
  simp only [kIaS]
  rw [if_pos ⟨Int.natCast_nonneg i, Int.ofNat_lt.2 hl⟩]
  exact h

def qIaA (len esz : Nat) : List V → Option Eff
  | [.ptr (some (id, o)), v] => match ofN v with
    | some i => match Nat.blt i len with
      | true => some (.val (.ptr (some (id, Nat.add o (Nat.mul i esz)))))
      | false => none
    | none => none
  | _ => none

theorem qIaA_ok {len esz : Nat} {vs : List V} {x : Eff} (h : qIaA len esz vs = some x) : kIaA len esz vs = some x := by
  unfold qIaA at h
  split at h
  case h_2 => cases h
  split at h
  case h_2 => cases h
  rename_i i hi
  obtain ⟨k, rfl⟩ := ofN_ok hi
  split at h
  case h_2 => cases h
  rename_i hl
  rw [Nat.blt_eq] at hl
  simp only [kIaA]
  rw [if_pos ⟨Int.natCast_nonneg i, Int.ofNat_lt.2 hl⟩]
  exact h

noncomputable def qIxA (len esz : Nat) (agg : Bool) : List V → Option Eff
  | [.agg cs, v] => match ofN v with
    | some i => match Nat.blt i len with
      | true => match agg with
        | true => some (.val (.agg ((cs.drop (i * esz)).take esz)))
        | false => match nthR cs (Nat.mul i esz) with
          | some u => some (.val u)
          | none => none
      | false => none
    | none => none
  | _ => none

theorem qIxA_ok {len esz : Nat} {agg : Bool} {vs : List V} {x : Eff} (h : qIxA len esz agg vs = some x) : kIxA len esz agg vs = some x := by
  unfold qIxA at h
  split at h
  case h_2 => cases h
  split at h
  case h_2 => cases h
  rename_i i hi
  obtain ⟨k, rfl⟩ := ofN_ok hi
  split at h
  case h_2 => cases h
  rename_i hl
  rw [Nat.blt_eq] at hl
  simp only [kIxA]
  rw [if_pos ⟨Int.natCast_nonneg i, Int.ofNat_lt.2 hl⟩]
  split at h
  · exact h
  · split at h
    case h_2 => cases h
    rename_i u hu
    rw [nthR_eq] at hu
    have e : (Int.ofNat i).toNat * esz = Nat.mul i esz := rfl
    simp only [Bool.false_eq_true, if_false, e, hu, Option.map_some]
    exact h

def qMaxI : List V → Option Eff
  | [.int k (.ofNat a), .int k' (.ofNat b)] => fInt k (match Nat.blt a b with | true => b | false => a)
  | l => kMaxI l

theorem qMaxI_ok {vs : List V} {x : Eff} (h : qMaxI vs = some x) : kMaxI vs = some x := by
  unfold qMaxI at h
  split at h
  · rename_i k a k' b
    simp only [kMaxI]
    cases hb : Nat.blt a b with
    | true =>
      rw [hb] at h
      rw [Nat.blt_eq] at hb
      have hc : Int.ofNat b > Int.ofNat a := Int.ofNat_lt.2 hb
      rw [if_pos hc]
      exact h
    | false =>
      have hn : ¬ a < b := by rw [← Nat.blt_eq, hb]; simp
      rw [hb] at h
      have hc : ¬ (Int.ofNat b > Int.ofNat a) := fun e => hn (Int.ofNat_lt.1 e)
      rw [if_neg hc]
      exact h
  · exact h

def qMinI : List V → Option Eff
  | [.int k (.ofNat a), .int k' (.ofNat b)] => fInt k (match Nat.blt b a with | true => b | false => a)
  | l => kMinI l

theorem qMinI_ok {vs : List V} {x : Eff} (h : qMinI vs = some x) : kMinI vs = some x := by
  unfold qMinI at h
  split at h
  · rename_i k a k' b
    simp only [kMinI]
    cases hb : Nat.blt b a with
    | true =>
      rw [hb] at h
      rw [Nat.blt_eq] at hb
      have hc : Int.ofNat b < Int.ofNat a := Int.ofNat_lt.2 hb
      rw [if_pos hc]
      exact h
    | false =>
      have hn : ¬ b < a := by rw [← Nat.blt_eq, hb]; simp
      rw [hb] at h
      have hc : ¬ (Int.ofNat b < Int.ofNat a) := fun e => hn (Int.ofNat_lt.1 e)
      rw [if_neg hc]
      exact h
  · exact h

end Go.Cn

/- The hot kinds by the recursors themselves, with operands instead of lists: what the kernel reckons with least. -/
namespace Go.Cn
set_option linter.unusedVariables false
set_option linter.unusedSimpArgs false

noncomputable def V.onInt {α : Type} (v : V) (f : IntKind → Int → α) (d : α) : α :=
  V.rec (motive_1 := fun _ => α) (motive_2 := fun _ => PUnit) (fun _ => d) (fun k n => f k n) (fun _ => d) (fun _ => d) (fun _ _ _ _ => d) (fun _ => d) (fun _ _ _ => d) d (fun _ _ _ => d) d (fun _ _ => d) (fun _ _ => d) ⟨⟩ (fun _ _ _ _ => ⟨⟩) v
noncomputable def V.onBool {α : Type} (v : V) (f : Bool → α) (d : α) : α :=
  V.rec (motive_1 := fun _ => α) (motive_2 := fun _ => PUnit) (fun b => f b) (fun _ _ => d) (fun _ => d) (fun _ => d) (fun _ _ _ _ => d) (fun _ => d) (fun _ _ _ => d) d (fun _ _ _ => d) d (fun _ _ => d) (fun _ _ => d) ⟨⟩ (fun _ _ _ _ => ⟨⟩) v
noncomputable def V.onPtr {α : Type} (v : V) (f : Nat → Nat → α) (d : α) : α :=
  V.rec (motive_1 := fun _ => α) (motive_2 := fun _ => PUnit) (fun _ => d) (fun _ _ => d) (fun _ => d) (fun p => Option.rec (motive := fun _ => α) d (fun q => Prod.rec (motive := fun _ => α) (fun a b => f a b) q) p) (fun _ _ _ _ => d) (fun _ => d) (fun _ _ _ => d) d (fun _ _ _ => d) d (fun _ _ => d) (fun _ _ => d) ⟨⟩ (fun _ _ _ _ => ⟨⟩) v
noncomputable def V.onAgg {α : Type} (v : V) (f : List V → α) (d : α) : α :=
  V.rec (motive_1 := fun _ => α) (motive_2 := fun _ => PUnit) (fun _ => d) (fun _ _ => d) (fun _ => d) (fun _ => d) (fun _ _ _ _ => d) (fun _ => d) (fun _ _ _ => d) d (fun _ _ _ => d) d (fun cs _ => f cs) (fun _ _ => d) ⟨⟩ (fun _ _ _ _ => ⟨⟩) v
noncomputable def V.onTuple {α : Type} (v : V) (f : List V → α) (d : α) : α :=
  V.rec (motive_1 := fun _ => α) (motive_2 := fun _ => PUnit) (fun _ => d) (fun _ _ => d) (fun _ => d) (fun _ => d) (fun _ _ _ _ => d) (fun _ => d) (fun _ _ _ => d) d (fun _ _ _ => d) d (fun _ _ => d) (fun cs _ => f cs) ⟨⟩ (fun _ _ _ _ => ⟨⟩) v

noncomputable def Int.onNat {α : Type} (n : Int) (f : Nat → α) (d : α) : α := Int.rec (motive := fun _ => α) (fun a => f a) (fun _ => d) n
noncomputable def onB {α : Type} (b : Bool) (x y : α) : α := Bool.rec (motive := fun _ => α) y x b
noncomputable def onO {α β : Type} (o : Option β) (f : β → α) (d : α) : α := Option.rec (motive := fun _ => α) d (fun x => f x) o

noncomputable def l1 (f : V → Option Eff) (l : List V) : Option Eff :=
  List.rec (motive := fun _ => Option Eff) none (fun x t _ => List.rec (motive := fun _ => Option Eff) (f x) (fun _ _ _ => none) t) l
noncomputable def l2 (f : V → V → Option Eff) (l : List V) : Option Eff :=
  List.rec (motive := fun _ => Option Eff) none (fun x t _ => List.rec (motive := fun _ => Option Eff) none (fun y u _ => List.rec (motive := fun _ => Option Eff) (f x y) (fun _ _ _ => none) u) t) l
noncomputable def l3 (f : V → V → V → Option Eff) (l : List V) : Option Eff :=
  List.rec (motive := fun _ => Option Eff) none (fun x t _ => List.rec (motive := fun _ => Option Eff) none (fun y u _ => List.rec (motive := fun _ => Option Eff) none (fun z w _ => List.rec (motive := fun _ => Option Eff) (f x y z) (fun _ _ _ => none) w) u) t) l

theorem l1_some {f : V → Option Eff} {l : List V} {r : Eff} (h : l1 f l = some r) : ∃ x, l = [x] ∧ f x = some r := by
  match l, h with
  | [x], h => exact ⟨x, rfl, h⟩
  | [], h => cases h
  | _ :: _ :: _, h => cases h
theorem l2_some {f : V → V → Option Eff} {l : List V} {r : Eff} (h : l2 f l = some r) : ∃ x y, l = [x, y] ∧ f x y = some r := by
  match l, h with
  | [x, y], h => exact ⟨x, y, rfl, h⟩
  | [], h => cases h
  | [_], h => cases h
  | _ :: _ :: _ :: _, h => cases h
theorem l3_some {f : V → V → V → Option Eff} {l : List V} {r : Eff} (h : l3 f l = some r) : ∃ x y z, l = [x, y, z] ∧ f x y z = some r := by
  match l, h with
  | [x, y, z], h => exact ⟨x, y, z, rfl, h⟩
  | [], h => cases h
  | [_], h => cases h
  | [_, _], h => cases h
  | _ :: _ :: _ :: _ :: _, h => cases h

/-! ### Kinds -/

noncomputable def rFa (off : Nat) (x : V) : Option Eff := x.onPtr (fun id o => some (.val (.ptr (some (id, Nat.add o off))))) none
noncomputable def rNilc (x : V) : Option Eff := x.onPtr (fun id o => some (.val (.ptr (some (id, o))))) (kNilc [x])
noncomputable def rExt (i : Nat) (x : V) : Option Eff := x.onTuple (fun vs => onO (nthR vs i) (fun v => some (.val v)) none) none
noncomputable def rPick (c a b : V) : Option Eff := c.onBool (fun t => some (.val (onB t a b))) none
noncomputable def rNot (x : V) : Option Eff := x.onBool (fun t => some (.val (.bool (onB t false true)))) none

/-- Two numbers that are not negative, of kinds that are numbered alike. -/
noncomputable def kNum (k : IntKind) : Nat := IntKind.rec (motive := fun _ => Nat) (nat_lit 0) (nat_lit 1) (nat_lit 2) (nat_lit 3) (nat_lit 4) (nat_lit 5) (nat_lit 6) (nat_lit 7) k
noncomputable def kMost (k : IntKind) : Nat := IntKind.rec (motive := fun _ => Nat) (nat_lit 127) (nat_lit 32767) (nat_lit 2147483647) (nat_lit 9223372036854775807) (nat_lit 255) (nat_lit 65535) (nat_lit 4294967295) (nat_lit 18446744073709551615) k

theorem kNum_ok {a b : IntKind} (h : Nat.beq (kNum a) (kNum b) = true) : a = b := by
  cases a <;> cases b <;> first | rfl | cases h
theorem kMost_ok {k : IntKind} {n : Nat} (h : Nat.ble n (kMost k) = true) : fitK k n = true := by
  cases k <;> exact h

noncomputable def rNum (dflt : Option Eff) (x y : V) (f : IntKind → Nat → Nat → Option Eff) : Option Eff :=
  x.onInt (fun k p => Int.onNat p (fun a => y.onInt (fun k' q => Int.onNat q (fun b => onB (Nat.beq (kNum k) (kNum k')) (f k a b) dflt) dflt) dflt) dflt) dflt

theorem rNum_some {dflt : Option Eff} {x y : V} {f : IntKind → Nat → Nat → Option Eff} {r : Eff} (h : rNum dflt x y f = some r) : dflt = some r ∨ ∃ k a b, x = .int k (.ofNat a) ∧ y = .int k (.ofNat b) ∧ f k a b = some r := by
  cases x <;> first | exact .inl h | skip
  rename_i k p
  cases p <;> first | exact .inl h | skip
  rename_i a
  cases y <;> first | exact .inl h | skip
  rename_i k' q
  cases q <;> first | exact .inl h | skip
  rename_i b
  have h' : onB (Nat.beq (kNum k) (kNum k')) (f k a b) dflt = some r := h
  cases e : Nat.beq (kNum k) (kNum k') with
  | false => rw [e] at h'; exact .inl h'
  | true =>
    rw [e] at h'
    obtain rfl := kNum_ok e
    exact .inr ⟨k, a, b, rfl, rfl, h'⟩

noncomputable def rAdd (x y : V) : Option Eff := rNum (kBin .add [x, y]) x y fun k a b => onB (Nat.ble (Nat.add a b) (kMost k)) (some (.val (.int k (.ofNat (Nat.add a b))))) (kBin .add [.int k (.ofNat a), .int k (.ofNat b)])
noncomputable def rSub (x y : V) : Option Eff := rNum (kBin .sub [x, y]) x y fun k a b => onB (Nat.ble b a) (onB (Nat.ble (Nat.sub a b) (kMost k)) (some (.val (.int k (.ofNat (Nat.sub a b))))) (kBin .sub [.int k (.ofNat a), .int k (.ofNat b)])) (kBin .sub [.int k (.ofNat a), .int k (.ofNat b)])
noncomputable def rEql (x y : V) : Option Eff := rNum (kBin .eql [x, y]) x y fun _ a b => some (.val (.bool (Nat.beq a b)))
noncomputable def rNeq (x y : V) : Option Eff := rNum (kBin .neq [x, y]) x y fun _ a b => some (.val (.bool (onB (Nat.beq a b) false true)))
noncomputable def rLss (x y : V) : Option Eff := rNum (kBin .lss [x, y]) x y fun _ a b => some (.val (.bool (Nat.ble (Nat.succ a) b)))
noncomputable def rLeq (x y : V) : Option Eff := rNum (kBin .leq [x, y]) x y fun _ a b => some (.val (.bool (Nat.ble a b)))
noncomputable def rGtr (x y : V) : Option Eff := rNum (kBin .gtr [x, y]) x y fun _ a b => some (.val (.bool (Nat.ble (Nat.succ b) a)))
noncomputable def rGeq (x y : V) : Option Eff := rNum (kBin .geq [x, y]) x y fun _ a b => some (.val (.bool (Nat.ble b a)))
noncomputable def rMax (x y : V) : Option Eff := rNum (qMaxI [x, y]) x y fun k a b => some (.val (.int k (.ofNat (onB (Nat.ble a b) b a))))
noncomputable def rMin (x y : V) : Option Eff := rNum (qMinI [x, y]) x y fun k a b => some (.val (.int k (.ofNat (onB (Nat.ble a b) a b))))

theorem bin_nat {op : BinOp} (hq : isQ op = true) {k : IntKind} {a b : Nat} {r : Eff} (h : qArith op k a b = some r) : kBin op [.int k (.ofNat a), .int k (.ofNat b)] = some r := by
  have := qArith_ok h
  simp only [kBin, binV_intBin hq]
  exact this

theorem rAdd_ok {x y : V} {r : Eff} (h : rAdd x y = some r) : kBin .add [x, y] = some r := by
  rcases rNum_some h with h0 | ⟨k, a, b, rfl, rfl, h1⟩
  · exact h0
  · cases e : Nat.ble (Nat.add a b) (kMost k) with
    | false => rw [e] at h1; exact h1
    | true =>
      rw [e] at h1
      refine bin_nat rfl ?_
      unfold qArith
      rw [kMost_ok e]
      exact h1
theorem rSub_ok {x y : V} {r : Eff} (h : rSub x y = some r) : kBin .sub [x, y] = some r := by
  rcases rNum_some h with h0 | ⟨k, a, b, rfl, rfl, h1⟩
  · exact h0
  · cases e0 : Nat.ble b a with
    | false => rw [e0] at h1; exact h1
    | true =>
      rw [e0] at h1
      cases e : Nat.ble (Nat.sub a b) (kMost k) with
      | false => rw [e] at h1; exact h1
      | true =>
        rw [e] at h1
        refine bin_nat rfl ?_
        unfold qArith
        rw [e0]
        simp only [kMost_ok e]
        exact h1
theorem rEql_ok {x y : V} {r : Eff} (h : rEql x y = some r) : kBin .eql [x, y] = some r := by
  rcases rNum_some h with h0 | ⟨k, a, b, rfl, rfl, h1⟩
  · exact h0
  · exact bin_nat rfl h1
theorem rNeq_ok {x y : V} {r : Eff} (h : rNeq x y = some r) : kBin .neq [x, y] = some r := by
  rcases rNum_some h with h0 | ⟨k, a, b, rfl, rfl, h1⟩
  · exact h0
  · refine bin_nat rfl ?_
    rw [← h1]
    unfold qArith fBool
    cases Nat.beq a b <;> rfl
theorem rLss_ok {x y : V} {r : Eff} (h : rLss x y = some r) : kBin .lss [x, y] = some r := by
  rcases rNum_some h with h0 | ⟨k, a, b, rfl, rfl, h1⟩
  · exact h0
  · exact bin_nat rfl h1
theorem rLeq_ok {x y : V} {r : Eff} (h : rLeq x y = some r) : kBin .leq [x, y] = some r := by
  rcases rNum_some h with h0 | ⟨k, a, b, rfl, rfl, h1⟩
  · exact h0
  · exact bin_nat rfl h1
theorem rGtr_ok {x y : V} {r : Eff} (h : rGtr x y = some r) : kBin .gtr [x, y] = some r := by
  rcases rNum_some h with h0 | ⟨k, a, b, rfl, rfl, h1⟩
  · exact h0
  · exact bin_nat rfl h1
theorem rGeq_ok {x y : V} {r : Eff} (h : rGeq x y = some r) : kBin .geq [x, y] = some r := by
  rcases rNum_some h with h0 | ⟨k, a, b, rfl, rfl, h1⟩
  · exact h0
  · exact bin_nat rfl h1
theorem ble_false {a b : Nat} (h : ¬ a ≤ b) : Nat.ble a b = false := by
  cases e : Nat.ble a b with
  | false => rfl
  | true => exact absurd (Nat.le_of_ble_eq_true e) h
theorem max_nat (a b : Nat) : (if Int.ofNat b > Int.ofNat a then Int.ofNat b else Int.ofNat a) = Int.ofNat (onB (Nat.ble a b) b a) := by
  by_cases hab : a ≤ b
  · rw [Nat.ble_eq_true_of_le hab]
    show _ = Int.ofNat b
    split
    · rfl
    · rename_i hh
      have : ¬ a < b := fun x => hh (Int.ofNat_lt.2 x)
      have : a = b := by omega
      rw [this]
  · rw [ble_false hab]
    show _ = Int.ofNat a
    have hn : ¬ Int.ofNat b > Int.ofNat a := fun hh => hab (Nat.le_of_lt (Int.ofNat_lt.1 hh))
    rw [if_neg hn]
theorem min_nat (a b : Nat) : (if Int.ofNat b < Int.ofNat a then Int.ofNat b else Int.ofNat a) = Int.ofNat (onB (Nat.ble a b) a b) := by
  by_cases hab : a ≤ b
  · rw [Nat.ble_eq_true_of_le hab]
    show _ = Int.ofNat a
    have hn : ¬ Int.ofNat b < Int.ofNat a := fun hh => absurd (Int.ofNat_lt.1 hh) (Nat.not_lt.2 hab)
    rw [if_neg hn]
  · rw [ble_false hab]
    show _ = Int.ofNat b
    have hlt : Int.ofNat b < Int.ofNat a := Int.ofNat_lt.2 (by omega)
    rw [if_pos hlt]
theorem rMax_ok {x y : V} {r : Eff} (h : rMax x y = some r) : kMaxI [x, y] = some r := by
  rcases rNum_some h with h0 | ⟨k, a, b, rfl, rfl, h1⟩
  · exact qMaxI_ok h0
  · simp only [kMaxI]
    rw [max_nat]
    exact h1
theorem rMin_ok {x y : V} {r : Eff} (h : rMin x y = some r) : kMinI [x, y] = some r := by
  rcases rNum_some h with h0 | ⟨k, a, b, rfl, rfl, h1⟩
  · exact qMinI_ok h0
  · simp only [kMinI]
    rw [min_nat]
    exact h1

theorem rFa_ok {off : Nat} {x : V} {r : Eff} (h : rFa off x = some r) : kFa off [x] = some r := by
  cases x <;> first | (cases h; done) | skip
  rename_i p
  cases p with
  | none => cases h
  | some q => obtain ⟨a, b⟩ := q; exact h
theorem rNilc_ok {x : V} {r : Eff} (h : rNilc x = some r) : kNilc [x] = some r := by
  cases x <;> first | exact h | skip
  rename_i p
  cases p with
  | none => exact h
  | some q => obtain ⟨a, b⟩ := q; exact h
theorem rExt_ok {i : Nat} {x : V} {r : Eff} (h : rExt i x = some r) : kExt i [x] = some r := by
  cases x <;> first | (cases h; done) | skip
  rename_i vs
  have h' : onO (nthR vs i) (fun v => some (Eff.val v)) none = some r := h
  rw [nthR_eq] at h'
  simp only [kExt]
  cases e : vs[i]? with
  | none => rw [e] at h'; cases h'
  | some v => rw [e] at h'; exact h'
theorem rPick_ok {c a b : V} {r : Eff} (h : rPick c a b = some r) : kPick [c, a, b] = some r := by
  cases c <;> first | (cases h; done) | skip
  rename_i t
  cases t <;> exact h
theorem rNot_ok {x : V} {r : Eff} (h : rNot x = some r) : kUn .not [x] = some r := by
  cases x <;> first | (cases h; done) | skip
  rename_i t
  cases t <;> exact h

noncomputable def rIaA (len esz : Nat) (p i : V) : Option Eff :=
  p.onPtr (fun id o => i.onInt (fun _ q => Int.onNat q (fun a => onB (Nat.ble (Nat.succ a) len) (some (.val (.ptr (some (id, Nat.add o (Nat.mul a esz)))))) none) none) none) none
theorem rIaA_ok {len esz : Nat} {p i : V} {r : Eff} (h : rIaA len esz p i = some r) : kIaA len esz [p, i] = some r := by
  cases p <;> first | (cases h; done) | skip
  rename_i p
  cases p with
  | none => cases h
  | some q =>
    obtain ⟨id, o⟩ := q
    cases i <;> first | (cases h; done) | skip
    rename_i k n
    cases n <;> first | (cases h; done) | skip
    rename_i a
    exact qIaA_ok (show qIaA len esz [.ptr (some (id, o)), .int k (.ofNat a)] = some r by
      have h' : onB (Nat.ble (Nat.succ a) len) (some (Eff.val (.ptr (some (id, Nat.add o (Nat.mul a esz)))))) none = some r := h
      simp only [qIaA, ofN]
      have e : Nat.blt a len = Nat.ble (Nat.succ a) len := rfl
      rw [e]
      cases hb : Nat.ble (Nat.succ a) len <;> (rw [hb] at h'; exact h'))

noncomputable def rIxA (len esz : Nat) (p i : V) : Option Eff :=
  p.onAgg (fun cs => i.onInt (fun _ q => Int.onNat q (fun a => onB (Nat.ble (Nat.succ a) len) (onO (nthR cs (Nat.mul a esz)) (fun u => some (.val u)) none) none) none) none) none
theorem rIxA_ok {len esz : Nat} {p i : V} {r : Eff} (h : rIxA len esz p i = some r) : kIxA len esz false [p, i] = some r := by
  cases p <;> first | (cases h; done) | skip
  rename_i cs
  cases i <;> first | (cases h; done) | skip
  rename_i k n
  cases n <;> first | (cases h; done) | skip
  rename_i a
  refine qIxA_ok (?_ : qIxA len esz false [.agg cs, .int k (.ofNat a)] = some r)
  have h' : onB (Nat.ble (Nat.succ a) len) (onO (nthR cs (Nat.mul a esz)) (fun u => some (Eff.val u)) none) none = some r := h
  simp only [qIxA, ofN]
  have e : Nat.blt a len = Nat.ble (Nat.succ a) len := rfl
  rw [e]
  cases hb : Nat.ble (Nat.succ a) len with
  | false => rw [hb] at h'; cases h'
  | true =>
    rw [hb] at h'
    cases hn : nthR cs (Nat.mul a esz) with
    | none => rw [hn] at h'; cases h'
    | some u => rw [hn] at h'; exact h'

noncomputable def Blk.onCells {α : Type} (B : Blk) (f : Nat → Bool → List V → α) (d : α) : α :=
  Blk.rec (motive := fun _ => α) (fun es ro cs => f es ro cs) (fun _ _ => d) (fun _ _ _ _ => d) d B

noncomputable def rLd (h : HT) (x : V) : Option Eff := x.onPtr (fun id o => (h.blk id).onCells (fun _ _ cs => onO (nthR cs o) (fun v => some (.val v)) none) none) none
theorem rLd_ok {h : HT} {x : V} {r : Eff} (e : rLd h x = some r) : kLd h.heap none [x] = some r := by
  cases x <;> first | (cases e; done) | skip
  rename_i p
  cases p with
  | none => cases e
  | some q =>
    obtain ⟨id, o⟩ := q
    have e' : (h.blk id).onCells (fun _ _ cs => onO (nthR cs o) (fun v => some (Eff.val v)) none) none = some r := e
    simp only [kLd, HT.heap_blk]
    cases hb : h.blk id with
    | cells es ro cs =>
      rw [hb] at e'
      have e'' : onO (nthR cs o) (fun v => some (Eff.val v)) none = some r := e'
      rw [nthR_eq] at e''
      cases hn : cs[o]? with
      | none => rw [hn] at e''; cases e''
      | some u => rw [hn] at e''; simp only [hn]; exact e''
    | map _ _ => rw [hb] at e'; cases e'
    | iter _ _ _ _ => rw [hb] at e'; cases e'
    | dead => rw [hb] at e'; cases e'

noncomputable def rLdN (h : HT) (n : Nat) (x : V) : Option Eff := x.onPtr (fun id o => (h.blk id).onCells (fun _ _ cs => onB (leB cs (Nat.add o n)) (some (.val (.agg (takeR (dropR cs o) n)))) none) none) none
theorem rLdN_ok {h : HT} {n : Nat} {x : V} {r : Eff} (e : rLdN h n x = some r) : kLd h.heap (some n) [x] = some r := by
  cases x <;> first | (cases e; done) | skip
  rename_i p
  cases p with
  | none => cases e
  | some q =>
    obtain ⟨id, o⟩ := q
    have e' : (h.blk id).onCells (fun _ _ cs => onB (leB cs (Nat.add o n)) (some (Eff.val (.agg (takeR (dropR cs o) n)))) none) none = some r := e
    simp only [kLd, Heap.row, HT.heap_blk]
    cases hb : h.blk id with
    | cells es ro cs =>
      rw [hb] at e'
      have e'' : onB (leB cs (Nat.add o n)) (some (Eff.val (.agg (takeR (dropR cs o) n)))) none = some r := e'
      cases hl : leB cs (Nat.add o n) with
      | false => rw [hl] at e''; cases e''
      | true =>
        rw [hl] at e''
        simp only
        rw [if_pos (show o + n ≤ cs.length from leB_le hl)]
        rw [takeR_eq, dropR_eq] at e''
        exact e''
    | map _ _ => rw [hb] at e'; cases e'
    | iter _ _ _ _ => rw [hb] at e'; cases e'
    | dead => rw [hb] at e'; cases e'

noncomputable def V.cellsR (v : V) : List V := v.onAgg (fun cs => cs) [v]
theorem cellsR_eq (v : V) : v.cellsR = v.cells := by cases v <;> rfl

noncomputable def rSt (h : HT) (n : Nat) (x v : V) : Option (V × Do) :=
  x.onPtr (fun id o => onB (okC v.cellsR n) ((h.blk id).onCells (fun es ro cs => onB ro none (onB (leB cs (Nat.add o n)) (some (V.undef, Do.set id (.cells es false (wrR cs o v.cellsR)))) none)) none) none) none
theorem rSt_ok {h : HT} {n : Nat} {x v : V} {r : V × Do} (e : rSt h n x v = some r) : dSt h n [x, v] = some r := by
  cases x <;> first | (cases e; done) | skip
  rename_i p
  cases p with
  | none => cases e
  | some q =>
    obtain ⟨id, o⟩ := q
    have e' : onB (okC v.cellsR n) ((h.blk id).onCells (fun es ro cs => onB ro none (onB (leB cs (Nat.add o n)) (some (V.undef, Do.set id (.cells es false (wrR cs o v.cellsR)))) none)) none) none = some r := e
    rw [cellsR_eq] at e'
    simp only [dSt]
    cases ho : okC v.cells n with
    | false => rw [ho] at e'; cases e'
    | true =>
      rw [ho] at e'
      have e2 : (h.blk id).onCells (fun es ro cs => onB ro none (onB (leB cs (Nat.add o n)) (some (V.undef, Do.set id (.cells es false (wrR cs o v.cells)))) none)) none = some r := e'
      simp only [dWriteN]
      cases hb : h.blk id with
      | cells es ro cs =>
        rw [hb] at e2
        cases ro with
        | true => cases e2
        | false =>
          have e3 : onB (leB cs (Nat.add o n)) (some (V.undef, Do.set id (.cells es false (wrR cs o v.cells)))) none = some r := e2
          cases hl : leB cs (Nat.add o n) with
          | false => rw [hl] at e3; cases e3
          | true => rw [hl] at e3; simp only [hl]; exact e3
      | map _ _ => rw [hb] at e2; cases e2
      | iter _ _ _ _ => rw [hb] at e2; cases e2
      | dead => rw [hb] at e2; cases e2

/-! ### Bits, conversions, slices -/

noncomputable def kUns (k : IntKind) : Bool := IntKind.rec (motive := fun _ => Bool) false false false false true true true true k
theorem kUns_ok {k : IntKind} (h : kUns k = true) : uK k = true := by cases k <;> first | rfl | cases h

noncomputable def rBit (op : BinOp) (f : Nat → Nat → Nat) (x y : V) : Option Eff :=
  rNum (kBin op [x, y]) x y fun k a b => onB (kUns k) (onB (Nat.ble a (kMost k)) (onB (Nat.ble b (kMost k)) (some (.val (.int k (.ofNat (f a b))))) (kBin op [x, y])) (kBin op [x, y])) (kBin op [x, y])
theorem rBit_ok {op : BinOp} {f : Nat → Nat → Nat} (hf : ∀ k a b, uK k = true → fitK k a = true → fitK k b = true → qBits op k a b = fInt k (f a b)) (hq : isB op = true) {x y : V} {r : Eff} (h : rBit op f x y = some r) : kBin op [x, y] = some r := by
  rcases rNum_some h with h0 | ⟨k, a, b, rfl, rfl, h1⟩
  · exact h0
  · cases e1 : kUns k with
    | false => rw [e1] at h1; exact h1
    | true =>
      rw [e1] at h1
      cases e2 : Nat.ble a (kMost k) with
      | false => rw [e2] at h1; exact h1
      | true =>
        rw [e2] at h1
        cases e3 : Nat.ble b (kMost k) with
        | false => rw [e3] at h1; exact h1
        | true =>
          rw [e3] at h1
          have h2 : qBits op k a b = some r := by rw [hf k a b (kUns_ok e1) (kMost_ok e2) (kMost_ok e3)]; exact h1
          have := qBits_ok h2
          simp only [kBin, binV_intBinB hq]
          exact this
noncomputable def rAnd (x y : V) : Option Eff := rBit .and Nat.land x y
noncomputable def rOr (x y : V) : Option Eff := rBit .or Nat.lor x y
noncomputable def rXor (x y : V) : Option Eff := rBit .xor Nat.xor x y
theorem rAnd_ok {x y : V} {r : Eff} (h : rAnd x y = some r) : kBin .and [x, y] = some r := rBit_ok (fun k a b h1 h2 h3 => by unfold qBits; rw [h1, h2, h3]) rfl h
theorem rOr_ok {x y : V} {r : Eff} (h : rOr x y = some r) : kBin .or [x, y] = some r := rBit_ok (fun k a b h1 h2 h3 => by unfold qBits; rw [h1, h2, h3]) rfl h
theorem rXor_ok {x y : V} {r : Eff} (h : rXor x y = some r) : kBin .xor [x, y] = some r := rBit_ok (fun k a b h1 h2 h3 => by unfold qBits; rw [h1, h2, h3]) rfl h

noncomputable def rShr (x y : V) : Option Eff :=
  x.onInt (fun k p => Int.onNat p (fun a => y.onInt (fun _ q => Int.onNat q (fun b => onB (Nat.ble b (nat_lit 8)) (some (.val (.int k (.ofNat (Nat.shiftRight a b))))) (kBin .shr [x, y])) (kBin .shr [x, y])) (kBin .shr [x, y])) (kBin .shr [x, y])) (kBin .shr [x, y])
theorem rShr_ok {x y : V} {r : Eff} (h : rShr x y = some r) : kBin .shr [x, y] = some r := by
  cases x <;> first | exact h | skip
  rename_i k p
  cases p <;> first | exact h | skip
  rename_i a
  cases y <;> first | exact h | skip
  rename_i k' q
  cases q <;> first | exact h | skip
  rename_i b
  refine qShr_ok ?_
  have h' : onB (Nat.ble b 8) (some (Eff.val (.int k (.ofNat (Nat.shiftRight a b))))) (kBin .shr [.int k (.ofNat a), .int k' (.ofNat b)]) = some r := h
  simp only [qShr]
  cases e : Nat.ble b 8 with
  | true => rw [e] at h'; exact h'
  | false => rw [e] at h'; exact h'

noncomputable def rCvI (k : IntKind) (x : V) : Option Eff :=
  x.onInt (fun _ p => Int.onNat p (fun a => onB (Nat.ble a (kMost k)) (some (.val (.int k (.ofNat a)))) (qCvI k [x])) (qCvI k [x])) (qCvI k [x])
theorem rCvI_ok {k : IntKind} {x : V} {r : Eff} (h : rCvI k x = some r) : kCvI k [x] = some r := by
  refine qCvI_ok ?_
  cases x <;> first | exact h | skip
  rename_i k' p
  cases p <;> first | exact h | skip
  rename_i a
  have h' : onB (Nat.ble a (kMost k)) (some (Eff.val (.int k (.ofNat a)))) (qCvI k [.int k' (.ofNat a)]) = some r := h
  cases e : Nat.ble a (kMost k) with
  | false => rw [e] at h'; exact h'
  | true =>
    rw [e] at h'
    simp only [qCvI, kMost_ok e]
    exact h'

noncomputable def V.onSlice {α : Type} (v : V) (f : Option (Nat × Nat) → Nat → α) (d : α) : α :=
  V.rec (motive_1 := fun _ => α) (motive_2 := fun _ => PUnit) (fun _ => d) (fun _ _ => d) (fun _ => d) (fun _ => d) (fun p n _ _ => f p n) (fun _ => d) (fun _ _ _ => d) d (fun _ _ _ => d) d (fun _ _ => d) (fun _ _ => d) ⟨⟩ (fun _ _ _ _ => ⟨⟩) v
noncomputable def rLenS (x : V) : Option Eff := x.onSlice (fun _ n => some (.val (.int .i64 (.ofNat n)))) none
theorem rLenS_ok {x : V} {r : Eff} (h : rLenS x = some r) : kLenS [x] = some r := by
  cases x <;> first | (cases h; done) | exact h
noncomputable def rIaS (esz : Nat) (p i : V) : Option Eff :=
  p.onSlice (fun q len => onO q (fun q => i.onInt (fun _ q' => Int.onNat q' (fun a => onB (Nat.ble (Nat.succ a) len) (some (.val (.ptr (some (q.1, Nat.add q.2 (Nat.mul a esz)))))) none) none) none) none) none
theorem rIaS_ok {esz : Nat} {p i : V} {r : Eff} (h : rIaS esz p i = some r) : kIaS esz [p, i] = some r := by
  cases p <;> first | (cases h; done) | skip
  rename_i q len full es
  cases q with
  | none => cases h
  | some q =>
    obtain ⟨id, o⟩ := q
    cases i <;> first | (cases h; done) | skip
    rename_i k n
    cases n <;> first | (cases h; done) | skip
    rename_i a
    refine qIaS_ok (?_ : qIaS esz [.slice (some (id, o)) len full es, .int k (.ofNat a)] = some r)
    have h' : onB (Nat.ble (Nat.succ a) len) (some (Eff.val (.ptr (some (id, Nat.add o (Nat.mul a esz)))))) none = some r := h
    simp only [qIaS, ofN]
    have e : Nat.blt a len = Nat.ble (Nat.succ a) len := rfl
    rw [e]
    cases hb : Nat.ble (Nat.succ a) len <;> (rw [hb] at h'; exact h')

noncomputable def allC (l : List V) : Bool := List.rec (motive := fun _ => Bool) true (fun v _ ih => onB v.isCellR ih false) l
theorem allC_ok : ∀ {l : List V}, allC l = true → l.all V.isCell = true
  | [], _ => rfl
  | v :: t, h => by
    have h' : onB v.isCellR (allC t) false = true := h
    rw [isCellR_eq] at h'
    cases e : v.isCell with
    | false => rw [e] at h'; cases h'
    | true => rw [e] at h'; simp only [List.all_cons, e, Bool.true_and]; exact allC_ok h'
noncomputable def rBox (x : V) : Option Eff := onB (allC x.cellsR) (some (.new (.cells 0 false x.cellsR) fun id => .ptr (some (id, 0)))) none
theorem rBox_ok {x : V} {r : Eff} (h : rBox x = some r) : kBox [x] = some r := by
  unfold rBox at h
  rw [cellsR_eq] at h
  cases e : allC x.cells with
  | false => rw [e] at h; cases h
  | true =>
    rw [e] at h
    simp only [kBox]
    rw [if_pos (allC_ok e)]
    exact h

end Go.Cn

/- Building words of many cells, by the recursors. -/
namespace Go.Cn
set_option linter.unusedVariables false
set_option linter.unusedSimpArgs false

noncomputable def fillR (ps : List (Nat × Nat)) (zero : List V) (vs : List V) : Option (List V) :=
  List.rec (motive := fun _ => List V → List V → Option (List V))
    (fun z vs => List.rec (motive := fun _ => Option (List V)) (some z) (fun _ _ _ => none) vs)
    (fun p _ ih z vs => List.rec (motive := fun _ => Option (List V)) none
      (fun v us _ => onB (okC v.cellsR p.2) (onB (leB z (Nat.add p.1 p.2)) (ih (wrR z p.1 v.cellsR) us) none) none) vs) ps zero vs

theorem fillR_ok : ∀ {ps : List (Nat × Nat)} {zero vs cs : List V}, fillR ps zero vs = some cs → fillV zero ps vs = some cs
  | [], zero, [], cs, h => h
  | [], zero, _ :: _, cs, h => by cases h
  | p :: ps, zero, [], cs, h => by cases h
  | (off, sz) :: ps, zero, v :: vs, cs, h => by
    have h1 : onB (okC v.cellsR sz) (onB (leB zero (Nat.add off sz)) (fillR ps (wrR zero off v.cellsR) vs) none) none = some cs := h
    rw [cellsR_eq] at h1
    cases e1 : okC v.cells sz with
    | false => rw [e1] at h1; cases h1
    | true =>
      rw [e1] at h1
      cases e2 : leB zero (Nat.add off sz) with
      | false => rw [e2] at h1; cases h1
      | true =>
        rw [e2] at h1
        obtain ⟨a, b⟩ := okC_ok e1
        have h2 : fillR ps (wrR zero off v.cells) vs = some cs := h1
        rw [wrR_eq] at h2
        simp only [fillV]
        rw [if_pos ⟨a, leB_le e2, b⟩]
        exact fillR_ok h2

noncomputable def rBld (zero : List V) (ps : List (Nat × Nat)) (l : List V) : Option Eff := onO (fillR ps zero l) (fun cs => some (.val (.agg cs))) none
theorem rBld_ok {zero : List V} {ps : List (Nat × Nat)} {l : List V} {r : Eff} (h : rBld zero ps l = some r) : kBld zero ps l = some r := by
  unfold rBld at h
  cases e : fillR ps zero l with
  | none => rw [e] at h; cases h
  | some cs =>
    rw [e] at h
    simp only [kBld, fillR_ok e, Option.map_some]
    exact h
noncomputable def rBsl (esz len : Nat) (zero : List V) (ps : List (Nat × Nat)) (l : List V) : Option Eff := onO (fillR ps zero l) (fun cs => some (.new (.cells esz false cs) fun id => .slice (some (id, 0)) len true esz)) none
theorem rBsl_ok {esz len : Nat} {zero : List V} {ps : List (Nat × Nat)} {l : List V} {r : Eff} (h : rBsl esz len zero ps l = some r) : kBsl esz len zero ps l = some r := by
  unfold rBsl at h
  cases e : fillR ps zero l with
  | none => rw [e] at h; cases h
  | some cs =>
    rw [e] at h
    simp only [kBsl, fillR_ok e, Option.map_some]
    exact h

noncomputable def rAlloc (zero : List V) (l : List V) : Option Eff := List.rec (motive := fun _ => Option Eff) (some (.new (.cells 0 false zero) fun id => .ptr (some (id, 0)))) (fun _ _ _ => none) l
theorem rAlloc_ok {zero : List V} {l : List V} {r : Eff} (h : rAlloc zero l = some r) : kAlloc zero l = some r := by
  cases l with
  | nil => exact h
  | cons => cases h

end Go.Cn
