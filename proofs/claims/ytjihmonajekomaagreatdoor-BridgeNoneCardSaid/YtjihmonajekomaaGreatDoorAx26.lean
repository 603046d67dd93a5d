/- A call that needs nothing of the memory, computed over an empty one, answers so over any. Conditions: as each theorem states. -/
import Derived.Test.YtjihmonajekomaaGreatDoorAx25
namespace Go.Proofs.YtjihmonajekomaaGreatDoor.Ax
open Go Go.RowKit
set_option linter.unusedVariables false

section
variable {P : Program} {ifs : List TypeId} {T : Summary} {mt : Methods}

/-- A value without a place. -/
def noPlace : AV → Bool
  | .int .. => true
  | .bool _ => true
  | .str _ => true
  | _ => false

theorem noPlace_vr {φ φ' : Emb} {a : AV} {v : Value} (h : noPlace a = true) (hv : VR φ a v) : VR φ' a v := by
  cases a <;> simp [noPlace] at h <;> simpa only [VR] using hv

theorem noPlaces_vr {φ φ' : Emb} : ∀ {l : List AV} {vs : List Value}, l.all noPlace = true → VRs φ l vs → VRs φ' l vs
  | [], vs, _, hv => by simpa only [VRs] using hv
  | a :: l, vs, h, hv => by
    simp only [List.all_cons, Bool.and_eq_true] at h
    simp only [VRs] at hv ⊢
    obtain ⟨v, r, rfl, h1, h2⟩ := hv
    exact ⟨v, r, rfl, noPlace_vr h.1 h1, noPlaces_vr h.2 h2⟩

/-- What stands behind a call that turned no old block. -/
theorem Rel.beyond {φ : Emb} {w0 w w' : World} {h : AH} (hr : Rel P ifs φ w0 h w) (hb : Below w.heap.size w w') : Rel P ifs φ w0 h w' ∧ Stp φ φ w w' := by
  refine ⟨⟨hr.below.trans (hb.mono hr.below.size), fun i b co N hi => ?_, hr.all, fun i b co N hi => ?_, hr.ni, hr.own⟩, ⟨Ext.refl _, hb.size, fun i b co N hi _ => ⟨i, co, N, hi⟩, fun b hlt _ => hb.block b hlt⟩⟩
  · have := hr.dom _ _ _ _ hi; have := hb.size; omega
  · obtain ⟨o, k1, k2⟩ := hr.blk _ _ _ _ hi
    exact ⟨o, (hb.block b (hr.dom _ _ _ _ hi).2).trans k1, k2⟩

theorem NCall.fresh (hT : SumSound P ifs T) (hmt : MtOk P mt) (hmix : P.follows .mixedOrders = true) {k n : Nat} {f : FuncId} {args : List AV} {v : AV} (ha : args.all noPlace = true) (hv : noPlace v = true)
    (e : ((acall (funcsOf P ifs) T mt k n (.fn f) args H0).map (·.1)) = some v) {h : AH} {Q : AV → AH → Prop} (q : Q v h) : NCall P ifs (.fn f) args h Q := by
  obtain ⟨⟨v1, h1⟩, e1, e2⟩ := Option.map_eq_some_iff.1 e
  simp only at e2
  subst e2
  intro φ w0 w vs hvs hr
  rcases (acall_sound hT hmt hmix k n).fn f args H0 _ h1 e1 φ00 w w vs (noPlaces_vr ha hvs) (Rel.init P ifs w) with ⟨g1, g2⟩ | ⟨v', w', φ', g1, g2, g3, g4⟩
  · refine .inl ⟨g1, Calls.mono g2 fun e w' ⟨v', φ', k1, k2, k3, k4⟩ => ?_⟩
    obtain ⟨r1, r2⟩ := hr.beyond k3.below
    exact ⟨_, h, v', φ, q, k1, noPlace_vr hv k2, r1, r2⟩
  · obtain ⟨r1, r2⟩ := hr.beyond g3.below
    exact .inr ⟨_, h, v', w', φ, q, g1, noPlace_vr hv g2, r1, r2⟩
end
end Go.Proofs.YtjihmonajekomaaGreatDoor.Ax
