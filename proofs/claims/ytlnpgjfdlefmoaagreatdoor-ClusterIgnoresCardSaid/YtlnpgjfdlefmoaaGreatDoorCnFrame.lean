/- Code sets but the slots that stand in it: what else stood there stands there still. -/
import Derived.Test.YtlnpgjfdlefmoaaGreatDoorCnMake
namespace Go.Cn
set_option linter.unusedVariables false
set_option linter.unusedSimpArgs false

/-- The slots that are set, one bit each. -/
def maskR : List It → Nat
  | [] => 0
  | it :: L => match it.dst with
    | some d => Nat.lor (Nat.shiftLeft 1 d) (maskR L)
    | none => maskR L

def maskC : AC → Nat
  | .reg L => maskR L
  | .seq a b => Nat.lor (maskC a) (maskC b)
  | .cond _ a b => Nat.lor (maskC a) (maskC b)
  | .block _ a => maskC a
  | .loop a => maskC a
  | _ => 0

/-- Outside of these slots, as it was. -/
def Agree (m : Nat) (e e' : Env) : Prop := ∀ t, m.testBit t = false → lk e' t = lk e t

theorem Agree.refl (m : Nat) (e : Env) : Agree m e e := fun _ _ => rfl
theorem Agree.put {m : Nat} {e0 e : Env} (h : Agree m e0 e) {dst : Option Nat} (hd : ∀ d, dst = some d → m.testBit d = true) (v : V) : Agree m e0 (putE e dst v) := by
  intro t ht
  cases dst with
  | none => exact h t ht
  | some d =>
    have hne : ¬ t = d := fun e => by rw [e, hd d rfl] at ht; cases ht
    simp only [putE, lk, if_neg hne]
    exact h t ht

def Within (m m0 : Nat) : Prop := ∀ t, m.testBit t = true → m0.testBit t = true

theorem Within.or {a b m : Nat} (h : Within (Nat.lor a b) m) : Within a m ∧ Within b m := by
  have e : ∀ t, (Nat.lor a b).testBit t = (a.testBit t || b.testBit t) := fun t => Nat.testBit_or a b t
  exact ⟨fun t ht => h t (by rw [e, ht]; rfl), fun t ht => h t (by rw [e, ht]; simp)⟩

theorem shl_bit (d : Nat) : (Nat.shiftLeft 1 d).testBit d = true := by
  show (1 <<< d).testBit d = true
  rw [Nat.testBit_shiftLeft]; simp

section
variable {P : Program}

theorem nextV_mono {H : Heap} {it : Nat} {K K' : V → Heap → Prop} (hk : ∀ v H', K v H' → K' v H') (h : nextV H it K) : nextV H it K' := by
  unfold nextV at h ⊢
  split at h
  · split at h
    · exact ⟨h.1, fun a => hk _ _ (h.2.1 a), fun e he => hk _ _ (h.2.2 e he)⟩
    · exact h
  · exact h

theorem actT_mono {k : Kind} {vs : List V} {H : Heap} {K K' : V → Heap → Prop} (hk : ∀ v H', K v H' → K' v H') (h : ActT P k vs H K) : ActT P k vs H K' := by
  unfold ActT at h ⊢
  split at h
  · exact h.mono hk
  · split at h
    · exact ⟨h.1, h.2.mono hk⟩
    · exact h
  · split at h
    · exact nextV_mono hk h
    · exact h
  · exact h
  · split at h
    · exact hk _ _ h
    · exact h

theorem cwp_frame {m : Nat} {e0 : Env} {Q Q' : Env → Heap → Prop} (hQ : ∀ e H, Agree m e0 e → Q' e H → Q e H) :
    ∀ (L : List It) (e : Env) (H : Heap) (pd : List Pnd), Within (maskR L) m → Agree m e0 e → cwp P L e H pd Q' → cwp P L e H pd Q
  | [], e, H, pd, hw, ha, h => hQ e H ha h
  | it :: rest, e, H, pd, hw, ha, h => by
    have hd : ∀ d, it.dst = some d → m.testBit d = true := by
      intro d hd
      refine hw d ?_
      simp only [maskR, hd]
      have e : (Nat.lor (Nat.shiftLeft 1 d) (maskR rest)).testBit d = ((Nat.shiftLeft 1 d).testBit d || (maskR rest).testBit d) := Nat.testBit_or _ _ _
      rw [e, shl_bit]; rfl
    have hw' : Within (maskR rest) m := by
      cases hdst : it.dst with
      | none => simp only [maskR, hdst] at hw; exact hw
      | some d => simp only [maskR, hdst] at hw; exact hw.or.2
    have ih := cwp_frame hQ rest
    unfold cwp at h ⊢
    split at h
    · exact h
    · exact ih _ _ _ hw' (ha.put hd _) h
    · split at h
      · exact h
      · split at h
        · rename_i hact
          rw [if_pos hact]
          exact actT_mono (fun v H' hh => ⟨hh.1, ih _ _ _ hw' (ha.put hd _) hh.2⟩) h
        · rename_i hact
          rw [if_neg hact]
          split at h
          · exact h
          · exact ih _ _ _ hw' (ha.put hd _) h
          · exact ih _ _ _ hw' (ha.put hd _) h

/-- What code sets is known: its word may be asked where the other slots are as they were. -/
theorem acwp_frame {m : Nat} {e0 : Env} : ∀ (a : AC) {Q Q' : AEx → Env → Heap → Prop}, (∀ x e H, Agree m e0 e → Q' x e H → Q x e H) → Within (maskC a) m → ∀ {e : Env} {H : Heap}, Agree m e0 e → acwp P a Q' e H → acwp P a Q e H
  | .skip, Q, Q', hQ, hw, e, H, ha, h => hQ _ _ _ ha h
  | .reg L, Q, Q', hQ, hw, e, H, ha, h => cwp_frame (fun e H => hQ _ e H) L e H [] hw ha h
  | .seq a b, Q, Q', hQ, hw, e, H, ha, h => by
    have hw := Within.or hw
    refine acwp_frame a (fun x e2 H2 ha2 hx => ?_) hw.1 ha h
    cases x with
    | normal => exact acwp_frame b hQ hw.2 ha2 hx
    | exit i => exact hQ _ _ _ ha2 hx
    | ret => exact hQ _ _ _ ha2 hx
  | .cond c a b, Q, Q', hQ, hw, e, H, ha, h => by
    have hw := Within.or hw
    simp only [acwp] at h ⊢
    split at h
    · exact acwp_frame a hQ hw.1 ha h
    · exact acwp_frame b hQ hw.2 ha h
    · exact h
  | .block id a, Q, Q', hQ, hw, e, H, ha, h => by
    refine acwp_frame a (fun x e2 H2 ha2 hx => ?_) hw ha h
    cases x with
    | normal => exact hQ _ _ _ ha2 hx
    | exit j =>
      simp only [AEx.inBlock] at hx ⊢
      split at hx
      · rename_i hj; rw [if_pos hj]; exact hQ _ _ _ ha2 hx
      · rename_i hj; rw [if_neg hj]; exact hQ _ _ _ ha2 hx
    | ret => exact hQ _ _ _ ha2 hx
  | .loop a, Q, Q', hQ, hw, e, H, ha, h => by
    obtain ⟨I, ⟨n, hI⟩, hround⟩ := h
    refine ⟨fun n e2 H2 => Agree m e0 e2 ∧ I n e2 H2, ⟨n, ha, hI⟩, fun n e2 H2 hI2 => ?_⟩
    refine acwp_frame a (fun x e3 H3 ha3 hx => ?_) hw hI2.1 (hround n e2 H2 hI2.2)
    cases x with
    | normal => obtain ⟨k, hk, hIk⟩ := hx; exact ⟨k, hk, ha3, hIk⟩
    | exit i => exact hQ _ _ _ ha3 hx
    | ret => exact hQ _ _ _ ha3 hx
  | .exit id, Q, Q', hQ, hw, e, H, ha, h => hQ _ _ _ ha h
  | .ret, Q, Q', hQ, hw, e, H, ha, h => hQ _ _ _ ha h

end
end Go.Cn
