/- A law's walk, from what the evaluator gives. Conditions: as each theorem states. -/
import Derived.Test.YtjihmonajekomaaGreatDoorAx19
namespace Go.Proofs.YtjihmonajekomaaGreatDoor.Ax
open Go Go.RowKit
set_option linter.unusedVariables false

def H0 : AH := ⟨0, []⟩
def φ00 : Emb := fun _ => none
def noSum : Summary := fun _ => none
def noMt : Methods := fun _ _ => none

theorem H0_get (i : Nat) : H0.get i = .dead := by unfold AH.get H0; simp

theorem Rel.init (P : Program) (ifs : List TypeId) (w : World) : Rel P ifs φ00 w H0 w :=
  { below := Below.refl _ _
    dom := fun i b co N h => nomatch h
    all := fun i h => absurd (H0_get i) h
    blk := fun i b co N h => nomatch h
    ni := fun i j b co co' N N' _ h _ => nomatch h
    own := fun i b co N h _ => nomatch h }

theorem noSum_sound (P : Program) (ifs : List TypeId) : SumSound P ifs noSum := fun f s h => by cases h
theorem noMt_ok (P : Program) : MtOk P noMt := fun t n f h => by cases h

/-- Is it this truth value? -/
def isB (b : Bool) : Option (AV × AH) → Bool
  | some (.bool c, _) => c == b
  | _ => false

theorem isB_some {b : Bool} {r : Option (AV × AH)} (h : isB b r = true) : ∃ h', r = some (.bool b, h') := by
  unfold isB at h
  split at h
  · rename_i c h'; simp at h; subst h; exact ⟨h', rfl⟩
  · cases h

/-- A FUNCTION THAT GIVES A TRUTH VALUE. -/
theorem calls_bool {P : Program} {ifs : List TypeId} {call : Callee} (hcs : CallSound P ifs call) {f : FuncId} {args : List AV} {b : Bool} {φ : Emb} {h : AH} {w : World} (hr : Rel P ifs φ w h w) (hv : isB b (call (.fn f) args h) = true) {vs : Array Value} (hvs : VRs φ args vs.toList)
    (hbody : ∃ fn, P.funcs[f]? = some fn ∧ fn.body.isSome = true) : Calls P f vs w fun e w' => e = .returned (.bool b) ∧ Below w.heap.size w w' := by
  obtain ⟨h', e⟩ := isB_some hv
  rcases hcs.fn f args h _ h' e φ w w vs hvs hr with ⟨_, hc⟩ | ⟨v', w', φ', h1, _⟩
  · refine Calls.mono hc fun e w' he => ?_
    obtain ⟨v', φ', rfl, k1, k2, k3⟩ := he
    rw [vr_bool k1]
    exact ⟨rfl, k2.below⟩
  · obtain ⟨fn, hf, hb⟩ := hbody
    have hbn : fn.body.isNone = false := by cases e : fn.body <;> simp_all
    exfalso
    unfold callFunc at h1
    simp only [Sem.run_bind, run_program, Result.andThen_ok, hf, hbn] at h1
    split at h1 <;> simp at h1
end Go.Proofs.YtjihmonajekomaaGreatDoor.Ax
