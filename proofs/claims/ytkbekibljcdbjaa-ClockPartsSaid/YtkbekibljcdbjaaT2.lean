import Derived.Test.YtkbekibljcdbjaaChecked
import Derived.WalkKit
import Derived.ProofKit
import Derived.Below
import Derived.Sort.Grow
import Derived.Shelf.SlSortCmp.Kit1
namespace Go.Proofs
open Go.RowKit
theorem cl62 (x : Int) (W : World) : Calls Try.prog 62 #[.int .i64 x] W fun e w' => e = .returned (.bool false) ∧ w' = W := by
  go_enter Try.func62, Try.ntmps62
  go_wp2
  go_ret
  exact ⟨by simp, rfl⟩
def cmpI (x y : Int) : Int := if x < y then -1 else if y < x then 1 else 0
theorem cl57 (x y : Int) (W : World) : Calls Try.prog 57 #[.int .i64 x, .int .i64 y] W fun e w' => e = .returned (.int .i64 (cmpI x y)) ∧ w' = W := by
  by_cases h1 : x < y
  · go_enter Try.func57, Try.ntmps57
    go_wp2_with (go_at_call 62; refine (cl62 _ _).mono ?_; rintro e w' ⟨rfl, rfl⟩)
    go_ret
    exact ⟨by simp [cmpI, h1], rfl⟩
  · by_cases h2 : y < x
    · go_enter Try.func57, Try.ntmps57
      go_wp2_with (go_at_call 62; refine (cl62 _ _).mono ?_; rintro e w' ⟨rfl, rfl⟩)
      go_ret
      exact ⟨by simp [cmpI, h1, h2], rfl⟩
    · go_enter Try.func57, Try.ntmps57
      go_wp2_with (go_at_call 62; refine (cl62 _ _).mono ?_; rintro e w' ⟨rfl, rfl⟩)
      go_ret
      exact ⟨by simp [cmpI, h1, h2]; try omega, rfl⟩
end Go.Proofs
namespace Go.Proofs
open Go.RowKit
set_option linter.unusedSimpArgs false
def orI (x y : Int) : Int := if x = 0 then y else x
theorem cl56 (b c : Nat) (x y : Int) (W : World) (h0 : W.cell? ⟨b, 0, none⟩ = some (.int .i64 x)) (h1 : W.cell? ⟨b, 1, none⟩ = some (.int .i64 y)) : Calls Try.prog 56 #[.slice (some ⟨b, 0, none⟩) 2 c] W fun e w' => e = .returned (.int .i64 (orI x y)) ∧ w' = W := by
  by_cases hx : x = 0
  · subst hx
    by_cases hy : y = 0
    · subst hy
      go_enter Try.func56, Try.ntmps56
      go_wp2
      refine wp_loop_rounds 3 ?_
      rw [rounds_succ]
      go_wp2
      rw [rounds_succ]
      go_wp2
      rw [rounds_succ]
      go_wp2
      go_ret
      exact ⟨by simp [orI], rfl⟩
    · go_enter Try.func56, Try.ntmps56
      go_wp2
      refine wp_loop_rounds 3 ?_
      rw [rounds_succ]
      go_wp2
      rw [rounds_succ]
      go_wp2
      go_ret
      exact ⟨by simp [orI], rfl⟩
  · go_enter Try.func56, Try.ntmps56
    go_wp2
    refine wp_loop_rounds 3 ?_
    rw [rounds_succ]
    go_wp2
    go_ret
    exact ⟨by simp [orI, hx], rfl⟩



set_option maxRecDepth 20000 in
set_option maxHeartbeats 1000000 in
theorem cl55q (pc k bm : Nat) (x y : Int) (at_ : Int → Int) (f g : Int → Int → Int) (W : World) (Q : Ending → World → Prop) (h0 : W.cell? ⟨pc, k, none⟩ = some (.map (some bm)))
    (h1 : ∀ z, (Instr.lookup 101 (.map (some bm)) (.int .i64 z) false).run Try.prog W = .ok (.int .i64 (at_ z)) W)
    (c1 : ∀ a b W, Calls Try.prog 57 #[.int .i64 a, .int .i64 b] W fun e w' => e = .returned (.int .i64 (f a b)) ∧ w' = W)
    (c3 : ∀ (b c : Nat) (A B : Int) (W : World), W.cell? ⟨b, 0, none⟩ = some (.int .i64 A) → W.cell? ⟨b, 1, none⟩ = some (.int .i64 B) → Calls Try.prog 56 #[.slice (some ⟨b, 0, none⟩) 2 c] W fun e w' => e = .returned (.int .i64 (g A B)) ∧ w' = W)
    (q : ∀ o, Q (.returned (.int .i64 (g (f (at_ x) (at_ y)) (f x y)))) (W.alloc o)) :
    Calls Try.prog 55 #[.int .i64 x, .int .i64 y, .pointer (some ⟨pc, k, none⟩)] W Q := by
  go_enter Try.func55, Try.ntmps55
  go_wp2_with (first | (go_at_call 57; refine (c1 _ _ _).mono ?_; rintro e w' ⟨rfl, rfl⟩) | (go_at_call 56; refine (c3 _ _ (f (at_ x) (at_ y)) (f x y) _ (by simp) (by simp)).mono ?_; rintro e w' ⟨rfl, rfl⟩))
  exact q _

theorem cl55 (pc k bm : Nat) (x y : Int) (at_ : Int → Int) (W : World) (h0 : W.cell? ⟨pc, k, none⟩ = some (.map (some bm))) (h1 : ∀ z, (Instr.lookup 101 (.map (some bm)) (.int .i64 z) false).run Try.prog W = .ok (.int .i64 (at_ z)) W) :
    Calls Try.prog 55 #[.int .i64 x, .int .i64 y, .pointer (some ⟨pc, k, none⟩)] W fun e w' => e = .returned (.int .i64 (orI (cmpI (at_ x) (at_ y)) (cmpI x y))) ∧ ∃ q os', w' = Go.Sort.grow (W.drewN q) os' :=
  cl55q pc k bm x y at_ cmpI orI W _ h0 h1 (fun a b W => cl57 a b W) (fun b c A B W h0 h1 => cl56 b c A B W h0 h1) fun o => ⟨rfl, 0, #[o], Go.Sort.alloc_eq_grow W o⟩
end Go.Proofs
