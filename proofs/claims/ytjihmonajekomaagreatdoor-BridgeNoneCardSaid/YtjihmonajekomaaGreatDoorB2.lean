/- The library's functions that the evaluator takes by what they answer: builders, Join, two externs; proved sound. Conditions: none. -/
import Derived.Test.YtjihmonajekomaaGreatDoorB1
import Derived.Test.YtjihmonajekomaaGreatDoorJn
import Derived.Test.YtjihmonajekomaaGreatDoorS2
import Derived.Test.YtjihmonajekomaaGreatDoorAx30
namespace Go.Proofs.YtjihmonajekomaaGreatDoor.Ax
open Go Go.RowKit
set_option linter.unusedVariables false
theorem enter_of {P : Program} {f : FuncId} {fn : Func} {vs : Array Value} {w : World} (h : P.funcs[f]? = some fn) (hn : (fn.name == "runtime.NumGoroutine") = false) (hb : fn.body.isNone = false) : (callFunc f vs).run P w = .ok (.enter f vs) w := by
  have hn' : ¬ fn.name = "runtime.NumGoroutine" := by simpa using hn
  have hb' : fn.body ≠ none := fun e => by rw [e] at hb; cases hb
  simp [callFunc, h, hn', hb']
/-- Where a builder lies: alone; in relay's keep; in wire's Wire. -/
def liesB (e l o : Nat) : Bool := (Nat.beq e 186 && Nat.beq l 2 && Nat.beq o 0) || (Nat.beq e 252 && Nat.beq l 3 && Nat.beq o 1) || (Nat.beq e 188 && Nat.beq l 3 && Nat.beq o 1)
theorem liesB_ok : ∀ e l o, liesB e l o = true → liesAt Tryz.prog Tryz.prog.depth e (l / Tryz.prog.cellsOf e) o 186 1 = true := by
  intro e l o h
  simp only [liesB, Bool.or_eq_true, Bool.and_eq_true, Nat.beq_eq] at h
  rcases h with (⟨⟨rfl, rfl⟩, rfl⟩ | ⟨⟨rfl, rfl⟩, rfl⟩) | ⟨⟨rfl, rfl⟩, rfl⟩ <;> kernel_rfl
def libS : Summary := fun f =>
  if f = 236 then some (ccS liesB) else if f = 154 then some (strS 5) else if f = 364 then some joinS else extS f

theorem libS_sound : SumSound Tryz.prog [] libS := by
  intro f s hs args h v h' e φ w0 w vs hvs hr
  unfold libS at hs
  split at hs
  · rename_i hf
    subst hf
    simp only [Option.some.injEq] at hs
    subst hs
    exact ccS_sound (T := 186) liesB_ok (fun vs w => enter_of Tryz.func236 (by kernel_rfl) (by kernel_rfl)) (fun b o w e c => cc_fresh b o w e c) (fun b o w => cc_used b o w) e hvs hr
  · split at hs
    · rename_i hf
      subst hf
      simp only [Option.some.injEq] at hs
      subst hs
      exact strS_sound (E8 := 5) Tryz.underlying292 (by kernel_rfl) (fun vs w => enter_of Tryz.func154 (by kernel_rfl) (by kernel_rfl)) (fun b o w W' q n c p s => b_string b o w W' q n c p s) e hvs hr
    · split at hs
      · rename_i hf
        subst hf
        simp only [Option.some.injEq] at hs
        subst hs
        exact joinS_sound (fun vs w => enter_of Tryz.func364 (by kernel_rfl) (by kernel_rfl)) (fun a c sep w => Tryz.strings_Join_none a c sep w) (fun bk o c xs sep w h1 h2 h3 h4 h5 => Tryz.strings_Join bk o c xs sep w h1 h2 h3 h4 h5) e hvs hr
      · exact extS_sound f s hs args h v h' e φ w0 w vs hvs hr
end Go.Proofs.YtjihmonajekomaaGreatDoor.Ax
