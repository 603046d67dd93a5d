/- The heaps of BridgeNone's law, over any config (printed by wip/tools/AxRun.lean, mkrun3.py). Conditions: none.
   Calls of BridgeNone's law, by the kernel. Conditions: none. -/
import Derived.Test.YtjihmonajekomaaGreatDoorAx30
import Derived.Test.YtjihmonajekomaaGreatDoorB2
import Derived.Test.YtjihmonajekomaaGreatDoorT6
import Derived.Test.YtjihmonajekomaaGreatDoorT3
namespace Go.Proofs.YtjihmonajekomaaGreatDoor.Ax
open Go
structure Cf where
  (n a : List Nat)
  (c0 c1 c2 c3 c4 c5 c6 c7 c8 c9 c10 c11 c12 c13 c14 c15 : Int)
namespace K
def cl (c : Cf) : List AV := [.str c.n, .str c.a, .int .i64 c.c0, .int .i64 c.c1, .int .i64 c.c2, .int .i64 c.c3, .int .i64 c.c4, .int .i64 c.c5, .int .i64 c.c6, .int .i64 c.c7, .int .i64 c.c8, .int .i64 c.c9, .int .i64 c.c10, .int .i64 c.c11, .int .i64 c.c12, .int .i64 c.c13, .int .i64 c.c14, .int .i64 c.c15]
def hA (c : Cf) : AH := H0.row (cl c) 25 true
def hB (c : Cf) : AH := ⟨6, [(.cells [(u (.ptr (some (2, 0)))), (u (.ptr (some (4, 0)))), (u E), (u B), (u B)] 90 5 0 false false true),
 (.cells [(u (.slice (some (3, 0)) 1 1 1)), (u O), (u O)] 175 4 0 false false true),
 (.cells [(u (.int .u8 0))] 5 3 0 false false true),
 (.cells [(u (.slice (some (1, 0)) 1 1 1)), (u O), (u O)] 175 2 0 false false true),
 (.cells [(u (.int .u8 0))] 5 1 0 false false true),
 (.cells [(u (.str c.n)), (u (.str c.a)), (u (.int .i64 c.c0)), (u (.int .i64 c.c1)), (u (.int .i64 c.c2)), (u (.int .i64 c.c3)), (u (.int .i64 c.c4)), (u (.int .i64 c.c5)), (u (.int .i64 c.c6)), (u (.int .i64 c.c7)), (u (.int .i64 c.c8)), (u (.int .i64 c.c9)), (u (.int .i64 c.c10)), (u (.int .i64 c.c11)), (u (.int .i64 c.c12)), (u (.int .i64 c.c13)), (u (.int .i64 c.c14)), (u (.int .i64 c.c15))] 25 0 0 false false true)]⟩
def hC (c : Cf) : AH := ⟨7, [(.cells [(u (.str c.n)), (u (.str c.a)), (u (.int .i64 c.c0)), (u (.int .i64 c.c1)), (u (.int .i64 c.c2)), (u (.int .i64 c.c3)), (u (.int .i64 c.c4)), (u (.int .i64 c.c5)), (u (.int .i64 c.c6)), (u (.int .i64 c.c7)), (u (.int .i64 c.c8)), (u (.int .i64 c.c9)), (u (.int .i64 c.c10)), (u (.int .i64 c.c11)), (u (.int .i64 c.c12)), (u (.int .i64 c.c13)), (u (.int .i64 c.c14)), (u (.int .i64 c.c15))] 25 6 0 false false true),
 (.cells [(u (.ptr (some (2, 0)))), (u (.ptr (some (4, 0)))), (u E), (u B), (u B)] 90 5 0 false false true),
 (.cells [(u (.slice (some (3, 0)) 1 1 1)), (u O), (u O)] 175 4 0 false false true),
 (.cells [(u (.int .u8 0))] 5 3 0 false false true),
 (.cells [(u (.slice (some (1, 0)) 1 1 1)), (u O), (u O)] 175 2 0 false false true),
 (.cells [(u (.int .u8 0))] 5 1 0 false false true),
 (.cells [(u (.str c.n)), (u (.str c.a)), (u (.int .i64 c.c0)), (u (.int .i64 c.c1)), (u (.int .i64 c.c2)), (u (.int .i64 c.c3)), (u (.int .i64 c.c4)), (u (.int .i64 c.c5)), (u (.int .i64 c.c6)), (u (.int .i64 c.c7)), (u (.int .i64 c.c8)), (u (.int .i64 c.c9)), (u (.int .i64 c.c10)), (u (.int .i64 c.c11)), (u (.int .i64 c.c12)), (u (.int .i64 c.c13)), (u (.int .i64 c.c14)), (u (.int .i64 c.c15))] 25 0 0 false false true)]⟩
def hD (c : Cf) : AH := ⟨12, [(.cells [(u (.ptr (some (8, 0)))), (u (.ptr (some (10, 0)))), (u E), (u B), (u B)] 90 11 0 false false true),
 (.cells [(u (.slice (some (9, 0)) 5 5 1)), (u O), (u O)] 175 10 0 false false true),
 (.cells [(u (.int .u8 0)), (u (.int .u8 0)), (u (.int .u8 0)), (u (.int .u8 0)), (u (.int .u8 0))] 5 9 0 false false true),
 (.cells [(u (.slice (some (7, 0)) 5 5 1)), (u O), (u O)] 175 8 0 false false true),
 (.cells [(u (.int .u8 0)), (u (.int .u8 0)), (u (.int .u8 0)), (u (.int .u8 0)), (u (.int .u8 0))] 5 7 0 false false true),
 (.cells [(u (.str c.n)), (u (.str c.a)), (u (.int .i64 c.c0)), (u (.int .i64 c.c1)), (u (.int .i64 c.c2)), (u (.int .i64 c.c3)), (u (.int .i64 c.c4)), (u (.int .i64 c.c5)), (u (.int .i64 c.c6)), (u (.int .i64 c.c7)), (u (.int .i64 c.c8)), (u (.int .i64 c.c9)), (u (.int .i64 c.c10)), (u (.int .i64 c.c11)), (u (.int .i64 c.c12)), (u (.int .i64 c.c13)), (u (.int .i64 c.c14)), (u (.int .i64 c.c15))] 25 6 0 false false true),
 (.cells [(u (.ptr (some (2, 0)))), (u (.ptr (some (4, 0)))), (u E), (u B), (u B)] 90 5 0 false false true),
 (.cells [(u (.slice (some (3, 0)) 1 1 1)), (u O), (u O)] 175 4 0 false false true),
 (.cells [(u (.int .u8 0))] 5 3 0 false false true),
 (.cells [(u (.slice (some (1, 0)) 1 1 1)), (u O), (u O)] 175 2 0 false false true),
 (.cells [(u (.int .u8 0))] 5 1 0 false false true),
 (.cells [(u (.str c.n)), (u (.str c.a)), (u (.int .i64 c.c0)), (u (.int .i64 c.c1)), (u (.int .i64 c.c2)), (u (.int .i64 c.c3)), (u (.int .i64 c.c4)), (u (.int .i64 c.c5)), (u (.int .i64 c.c6)), (u (.int .i64 c.c7)), (u (.int .i64 c.c8)), (u (.int .i64 c.c9)), (u (.int .i64 c.c10)), (u (.int .i64 c.c11)), (u (.int .i64 c.c12)), (u (.int .i64 c.c13)), (u (.int .i64 c.c14)), (u (.int .i64 c.c15))] 25 0 0 false false true)]⟩
def hE (c : Cf) : AH := ⟨19, [(.cells [(u E), (u E), (u O), (u O), (u E), (u L), (u O), (u O), (u B), (u O), (u N), (u B), (u B), (u B), (u O), (u (.str c.n)), (u (.str c.a)), (u (.int .i64 c.c0)), (u (.int .i64 c.c1)), (u (.int .i64 c.c2)), (u (.int .i64 c.c3)), (u (.int .i64 c.c4)), (u (.int .i64 c.c5)), (u (.int .i64 c.c6)), (u (.int .i64 c.c7)), (u (.int .i64 c.c8)), (u (.int .i64 c.c9)), (u (.int .i64 c.c10)), (u (.int .i64 c.c11)), (u (.int .i64 c.c12)), (u (.int .i64 c.c13)), (u (.int .i64 c.c14)), (u (.int .i64 c.c15)), (u (.ptr (some (11, 0)))), (u N), (u E), (u B), (u (.ptr (some (17, 0)))), (u N), (u (I 1)), (u O)] 84 18 0 false false true),
 (.cells [(u E), (u E), (u O), (u O), (u E), (u L), (u O), (u O), (u L), (u (I 1)), (u (.int .i64 c.c11)), (u (.int .i64 c.c12)), (u (.int .i64 c.c13)), (u (.int .i64 c.c14)), (u (.int .i64 c.c15)), (u E), (u (.ptr (some (16, 0)))), (u N), (u B), (u O)] 170 17 0 false false true),
 (.cells [(u (.ptr (some (15, 0)))), (u (I 1)), (u (.int .i64 c.c11)), (u (.int .i64 c.c12)), (u (.int .i64 c.c13)), (u (.int .i64 c.c14)), (u (.int .i64 c.c15)), (u L), (u B), (u E), (u E), (u O), (u O), (u E), (u L), (u O)] 275 16 0 false false true),
 (.cells [(u (.int .i64 c.c11)), (u O), (u L), (u B), (u B), (u B), (u O)] 359 15 0 false false true),
 (.cells [(u (.int .i64 c.c11)), (u (.int .i64 c.c12)), (u (.int .i64 c.c13)), (u (.int .i64 c.c14)), (u (.int .i64 c.c15))] 23 14 0 false false true),
 (.cells [(u (.int .i64 c.c11)), (u (.int .i64 c.c12)), (u (.int .i64 c.c13)), (u (.int .i64 c.c14)), (u (.int .i64 c.c15))] 23 13 0 false false true),
 (.cells [(u (.str c.n)), (u (.str c.a)), (u (.int .i64 c.c0)), (u (.int .i64 c.c1)), (u (.int .i64 c.c2)), (u (.int .i64 c.c3)), (u (.int .i64 c.c4)), (u (.int .i64 c.c5)), (u (.int .i64 c.c6)), (u (.int .i64 c.c7)), (u (.int .i64 c.c8)), (u (.int .i64 c.c9)), (u (.int .i64 c.c10)), (u (.int .i64 c.c11)), (u (.int .i64 c.c12)), (u (.int .i64 c.c13)), (u (.int .i64 c.c14)), (u (.int .i64 c.c15))] 25 12 0 false false true),
 (.cells [(u (.ptr (some (8, 0)))), (u (.ptr (some (10, 0)))), (u E), (u B), (u B)] 90 11 0 false false true),
 (.cells [(u (.slice (some (9, 0)) 5 5 1)), (u O), (u O)] 175 10 0 false false true),
 (.cells [(u (.int .u8 0)), (u (.int .u8 0)), (u (.int .u8 0)), (u (.int .u8 0)), (u (.int .u8 0))] 5 9 0 false false true),
 (.cells [(u (.slice (some (7, 0)) 5 5 1)), (u O), (u O)] 175 8 0 false false true),
 (.cells [(u (.int .u8 0)), (u (.int .u8 0)), (u (.int .u8 0)), (u (.int .u8 0)), (u (.int .u8 0))] 5 7 0 false false true),
 (.cells [(u (.str c.n)), (u (.str c.a)), (u (.int .i64 c.c0)), (u (.int .i64 c.c1)), (u (.int .i64 c.c2)), (u (.int .i64 c.c3)), (u (.int .i64 c.c4)), (u (.int .i64 c.c5)), (u (.int .i64 c.c6)), (u (.int .i64 c.c7)), (u (.int .i64 c.c8)), (u (.int .i64 c.c9)), (u (.int .i64 c.c10)), (u (.int .i64 c.c11)), (u (.int .i64 c.c12)), (u (.int .i64 c.c13)), (u (.int .i64 c.c14)), (u (.int .i64 c.c15))] 25 6 0 false false true),
 (.cells [(u (.ptr (some (2, 0)))), (u (.ptr (some (4, 0)))), (u E), (u B), (u B)] 90 5 0 false false true),
 (.cells [(u (.slice (some (3, 0)) 1 1 1)), (u O), (u O)] 175 4 0 false false true),
 (.cells [(u (.int .u8 0))] 5 3 0 false false true),
 (.cells [(u (.slice (some (1, 0)) 1 1 1)), (u O), (u O)] 175 2 0 false false true),
 (.cells [(u (.int .u8 0))] 5 1 0 false false true),
 (.cells [(u (.str c.n)), (u (.str c.a)), (u (.int .i64 c.c0)), (u (.int .i64 c.c1)), (u (.int .i64 c.c2)), (u (.int .i64 c.c3)), (u (.int .i64 c.c4)), (u (.int .i64 c.c5)), (u (.int .i64 c.c6)), (u (.int .i64 c.c7)), (u (.int .i64 c.c8)), (u (.int .i64 c.c9)), (u (.int .i64 c.c10)), (u (.int .i64 c.c11)), (u (.int .i64 c.c12)), (u (.int .i64 c.c13)), (u (.int .i64 c.c14)), (u (.int .i64 c.c15))] 25 0 0 false false true)]⟩
def hG (c : Cf) (now : Int) : AH := ⟨20, [(.cells [(u (.ptr (some (18, 0))))] 27 19 0 false false true),
 (.cells [(u E), (u E), (u O), (u O), (u E), (u L), (u O), (u O), (u B), (u O), (u N), (u B), (u B), (u B), (u O), (u (.str c.n)), (u (.str c.a)), (u (.int .i64 c.c0)), (u (.int .i64 c.c1)), (u (.int .i64 c.c2)), (u (.int .i64 c.c3)), (u (.int .i64 c.c4)), (u (.int .i64 c.c5)), (u (.int .i64 c.c6)), (u (.int .i64 c.c7)), (u (.int .i64 c.c8)), (u (.int .i64 c.c9)), (u (.int .i64 c.c10)), (u (.int .i64 c.c11)), (u (.int .i64 c.c12)), (u (.int .i64 c.c13)), (u (.int .i64 c.c14)), (u (.int .i64 c.c15)), (u (.ptr (some (11, 0)))), (u N), (u E), (u B), (u (.ptr (some (17, 0)))), (u N), (u (I 1)), (u (.int .i64 now))] 84 18 0 false false true),
 (.cells [(u E), (u E), (u O), (u O), (u E), (u L), (u O), (u O), (u L), (u (I 1)), (u (.int .i64 c.c11)), (u (.int .i64 c.c12)), (u (.int .i64 c.c13)), (u (.int .i64 c.c14)), (u (.int .i64 c.c15)), (u E), (u (.ptr (some (16, 0)))), (u N), (u B), (u O)] 170 17 0 false false true),
 (.cells [(u (.ptr (some (15, 0)))), (u (I 1)), (u (.int .i64 c.c11)), (u (.int .i64 c.c12)), (u (.int .i64 c.c13)), (u (.int .i64 c.c14)), (u (.int .i64 c.c15)), (u L), (u B), (u E), (u E), (u O), (u O), (u E), (u L), (u O)] 275 16 0 false false true),
 (.cells [(u (.int .i64 c.c11)), (u O), (u L), (u B), (u B), (u B), (u O)] 359 15 0 false false true),
 (.cells [(u (.int .i64 c.c11)), (u (.int .i64 c.c12)), (u (.int .i64 c.c13)), (u (.int .i64 c.c14)), (u (.int .i64 c.c15))] 23 14 0 false false true),
 (.cells [(u (.int .i64 c.c11)), (u (.int .i64 c.c12)), (u (.int .i64 c.c13)), (u (.int .i64 c.c14)), (u (.int .i64 c.c15))] 23 13 0 false false true),
 (.cells [(u (.str c.n)), (u (.str c.a)), (u (.int .i64 c.c0)), (u (.int .i64 c.c1)), (u (.int .i64 c.c2)), (u (.int .i64 c.c3)), (u (.int .i64 c.c4)), (u (.int .i64 c.c5)), (u (.int .i64 c.c6)), (u (.int .i64 c.c7)), (u (.int .i64 c.c8)), (u (.int .i64 c.c9)), (u (.int .i64 c.c10)), (u (.int .i64 c.c11)), (u (.int .i64 c.c12)), (u (.int .i64 c.c13)), (u (.int .i64 c.c14)), (u (.int .i64 c.c15))] 25 12 0 false false true),
 (.cells [(u (.ptr (some (8, 0)))), (u (.ptr (some (10, 0)))), (u E), (u B), (u B)] 90 11 0 false false true),
 (.cells [(u (.slice (some (9, 0)) 5 5 1)), (u O), (u O)] 175 10 0 false false true),
 (.cells [(u (.int .u8 0)), (u (.int .u8 0)), (u (.int .u8 0)), (u (.int .u8 0)), (u (.int .u8 0))] 5 9 0 false false true),
 (.cells [(u (.slice (some (7, 0)) 5 5 1)), (u O), (u O)] 175 8 0 false false true),
 (.cells [(u (.int .u8 0)), (u (.int .u8 0)), (u (.int .u8 0)), (u (.int .u8 0)), (u (.int .u8 0))] 5 7 0 false false true),
 (.cells [(u (.str c.n)), (u (.str c.a)), (u (.int .i64 c.c0)), (u (.int .i64 c.c1)), (u (.int .i64 c.c2)), (u (.int .i64 c.c3)), (u (.int .i64 c.c4)), (u (.int .i64 c.c5)), (u (.int .i64 c.c6)), (u (.int .i64 c.c7)), (u (.int .i64 c.c8)), (u (.int .i64 c.c9)), (u (.int .i64 c.c10)), (u (.int .i64 c.c11)), (u (.int .i64 c.c12)), (u (.int .i64 c.c13)), (u (.int .i64 c.c14)), (u (.int .i64 c.c15))] 25 6 0 false false true),
 (.cells [(u (.ptr (some (2, 0)))), (u (.ptr (some (4, 0)))), (u E), (u B), (u B)] 90 5 0 false false true),
 (.cells [(u (.slice (some (3, 0)) 1 1 1)), (u O), (u O)] 175 4 0 false false true),
 (.cells [(u (.int .u8 0))] 5 3 0 false false true),
 (.cells [(u (.slice (some (1, 0)) 1 1 1)), (u O), (u O)] 175 2 0 false false true),
 (.cells [(u (.int .u8 0))] 5 1 0 false false true),
 (.cells [(u (.str c.n)), (u (.str c.a)), (u (.int .i64 c.c0)), (u (.int .i64 c.c1)), (u (.int .i64 c.c2)), (u (.int .i64 c.c3)), (u (.int .i64 c.c4)), (u (.int .i64 c.c5)), (u (.int .i64 c.c6)), (u (.int .i64 c.c7)), (u (.int .i64 c.c8)), (u (.int .i64 c.c9)), (u (.int .i64 c.c10)), (u (.int .i64 c.c11)), (u (.int .i64 c.c12)), (u (.int .i64 c.c13)), (u (.int .i64 c.c14)), (u (.int .i64 c.c15))] 25 0 0 false false true)]⟩
end K
end Go.Proofs.YtjihmonajekomaaGreatDoor.Ax

namespace Go.Proofs.YtjihmonajekomaaGreatDoor.Ax.K
open Go
noncomputable def F37 : FuncId → Option AFn := fun f => match T3.get f with | some x => some x | none => T6.get f
theorem F37_le : ∀ f x, F37 f = some x → funcsOf Tryz.prog [] f = some x := by
  intro f x e
  unfold F37 at e
  cases h : T3.get f with
  | some y => rw [h] at e; simp only [Option.some.injEq] at e; subst e; exact T3_le _ _ h
  | none => rw [h] at e; exact T6_le _ _ e
noncomputable def C7 : Callee := acall F37 libS noMt 1000 60
theorem run7 (h : AH) : C7 (.fn 7) [N] h = some (.tuple [N, E], h) := by kernel_rfl
theorem run8 (h : AH) : C7 (.fn 8) [N] h = some (.tuple [E, B], h) := by kernel_rfl
theorem run9 (h : AH) (now : Int) : C7 (.fn 9) [N, .int .i64 now] h = some (B, h) := by kernel_rfl
theorem run10 (h : AH) (now : Int) : C7 (.fn 10) [N, .int .i64 now] h = some (B, h) := by kernel_rfl
theorem run11 (h : AH) : C7 (.fn 11) [N] h = some (I 9, h) := by kernel_rfl
theorem run12 (h : AH) (v : AV) : C7 (.fn 12) [N, v] h = some (B, h) := by kernel_rfl
theorem run14 (h : AH) : C7 (.fn 14) [N] h = some (N, h) := by kernel_rfl
theorem run13a (c : Cf) : C7 (.fn 13) [I 1] (hA c) = some (.ptr (some (5, 0)), hB c) := by kernel_rfl
theorem run13b (c : Cf) : C7 (.fn 13) [I 5] (hC c) = some (.ptr (some (11, 0)), hD c) := by kernel_rfl
theorem run9b (c : Cf) (now : Int) : C7 (.fn 9) [.ptr (some (18, 0)), .int .i64 now] (hE c) = some (B, hG c now) := by kernel_rfl
theorem run12b (c : Cf) (now : Int) : C7 (.fn 12) [.ptr (some (18, 0)), .ptr (some (11, 0))] (hG c now) = some (B, hG c now) := by kernel_rfl
theorem run11b (c : Cf) (now : Int) : C7 (.fn 11) [.ptr (some (18, 0))] (hG c now) = some (I 1, hG c now) := by kernel_rfl
theorem run14b (c : Cf) (now : Int) : C7 (.fn 14) [.ptr (some (18, 0))] (hG c now) = some (N, hG c now) := by kernel_rfl
end Go.Proofs.YtjihmonajekomaaGreatDoor.Ax.K
