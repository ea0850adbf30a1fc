/- A law's call: what it leaves as it was. -/
import Derived.Test.YtlnpgjfdlefmoaaGreatDoorCnArgs2
import Derived.ReadAgain
import Derived.ChangeOld
import Derived.ChangeReads
import Derived.ChangeBears
import Derived.OpenShut
namespace Go.Cn
open Go.ChangeShapes Go.WideShapes
set_option linter.unusedVariables false
set_option linter.unusedSimpArgs false

/-- What was there is there as it was. -/
def OldKept (w w' : World) : Prop := ∀ b, b < w.heap.size → w'.heap[b]? = w.heap[b]?

theorem OldKept.keptBut {w w' : World} (h : OldKept w w') (ho : w'.os = w.os) (hp : w'.output = w.output) (may : MemPlace → Prop) : w.keptBut w' may := by
  refine ⟨ho, hp, fun i hi => ?_⟩
  rw [h i hi]
  split <;> simp_all

theorem calls_law {P : Program} {f : FuncId} {vs : List V} {H : Heap} {ρ : Ren} {w : World} {args : Array Value} {K : V → Heap → Prop} (h : CallT P f vs H K) (hK : ∀ v H', K v H' → v = .bool true) (hr : Rel ρ H w) (ro : ReadOnly ρ) (ha : VRels ρ vs args) :
    Calls P f args w fun e w' => e = .returned (.bool true) ∧ OldKept w w' ∧ ∀ may, w.keptBut w' may := by
  refine Calls.mono (h ρ w args hr ha) ?_
  rintro e w' ⟨ρ', v, v', H', rfl, hv, hr', hx, hk⟩
  have := hK _ _ hk
  subst this
  cases hv
  have ho : OldKept w w' := fun b hb => hx.frame b hb (fun id o n es hh => by have := ro _ _ _ _ _ _ hh; cases this)
  exact ⟨rfl, ho, fun may => ho.keptBut hx.os hx.output may⟩

section
variable {H : Type} {enc : TypeId × Value → H} {P : Program} {w w' : World}

theorem sameAt_of {p : MemPlace} (h : OldKept w w') (hp : p.block < w.heap.size) : w.sameAt w' p := by
  cases p with
  | cell b off =>
    show w'.cell? ⟨b, off, none⟩ = w.cell? ⟨b, off, none⟩
    unfold World.cell?
    have := h b hp
    simp only [this]
  | map b => exact h b hp

theorem trodAll_carry {base : Nat} {spare : Nat → Bool} {held : Bool} : ∀ {ts : List TypeId} {vs : List Value} {ds : List (DataW H)} {ps : List MemPlace}, DataW.TrodAll enc P w base spare held ts vs ds ps → (∀ p ∈ ps, w.sameAt w' p) → DataW.TrodAll enc P w' base spare held ts vs ds ps
  | [], [], [], _, h, _ => h
  | _ :: _, _ :: _, _ :: _, _, ⟨p, q, ⟨n, h1⟩, h2, e⟩, hs =>
    ⟨p, q, ⟨n, DataW.trod_carry n _ _ _ h1 (fun x hx => hs x (by rw [e]; exact List.mem_append_left _ hx))⟩, trodAll_carry h2 (fun x hx => hs x (by rw [e]; exact List.mem_append_right _ hx)), e⟩
  | [], _ :: _, _, _, h, _ => h.elim
  | [], [], _ :: _, _, h, _ => h.elim
  | _ :: _, [], _, _, h, _ => h.elim
  | _ :: _, _ :: _, [], _, h, _ => h.elim

theorem law_args (hl : laidOutB P = true) (hm : mapsRowed P = true) (hz : ∀ t e, t < P.types.size → P.underlying t = some (.slice e) → 0 < P.cellsOf e) {ts : List TypeId} {vs : List Value} {ds : List (DataW H)} {ps : List MemPlace}
    (hT : ∀ t ∈ ts, t < P.types.size) (h : DataW.TrodAll enc P w 0 (fun _ => true) true ts vs ds ps) (ho : OldKept w w') : DataW.TrodAll enc P w' 0 (fun b => decide (b < w.heap.size)) true ts vs ds ps :=
  trodAll_carry (h.respare (kids_rows hl hm) hz hT (fun p hp => by simpa using h.lt p hp)) fun p hp => sameAt_of ho (h.lt p hp)

end
end Go.Cn
