/- reader.New over limits in bounds. Conditions: as each theorem states. -/
import Derived.Test.YtjihmonajekomaaGreatDoorR5
import Derived.Test.YtjihmonajekomaaGreatDoorC3
namespace Go.Proofs.YtjihmonajekomaaGreatDoor.Ax
open Go
set_option linter.unusedVariables false
set_option linter.unusedSimpArgs false
variable {h : AH} {Q : AV → AH → Prop}

theorem row_cellsAt (h : AH) (vs : List AV) (e : TypeId) (p : Bool) {n i : Nat} (hi : i = h.next) (hn : vs.length = n) : (h.row vs e p).cellsAt (i, 0) n = some vs := by
  subst hi
  exact (cellsAt_iff (get_row_new h vs e p h.next rfl)).2 ⟨hn, fun j v hj => by rw [Nat.zero_add, List.getElem?_map, hj]; rfl⟩
theorem row_cellsAt_old (h : AH) (vs : List AV) (e : TypeId) (p : Bool) {n i o : Nat} (hi : i < h.next) : (h.row vs e p).cellsAt (i, o) n = h.cellsAt (i, o) n := by
  simp only [AH.cellsAt, get_row_old h vs e p i hi]
theorem row_next (h : AH) (vs : List AV) (e : TypeId) (p : Bool) : (h.row vs e p).next = h.next + 1 := rfl
theorem row_cell1 (h : AH) (vs : List AV) (e : TypeId) (p : Bool) {i o : Nat} (hi : i = h.next) : cell1 (h.row vs e p) i o = vs[o]? := by
  subst hi; exact cell1_row h vs e p o

theorem lines228 {n : Int} (h1 : 0 ≤ n) (h2 : n ≤ 65536) (q : Q (.ptr (some (h.next, 0))) (h.row [.int .i64 n, .int .i64 0, .slice none 0 0 0, .bool false, .bool false, .bool false, .int .i64 0] 359 true)) : WCall E2 (.fn 228) [.int .i64 n] h Q := by
  refine call2 F228 rfl (WCode.seq (WCode.region ?_))
  simp [c228, c228_r0]
  refine WCode.seq (WCode.seq (WCode.region ?_))
  have g1 : ¬ n < 0 := by omega
  have g2 : ¬ 65536 < n := by omega
  simp [c228_r1, g1, g2]
  refine WCode.condF (by simp) (WCode.skip ?_)
  simp
  refine WCode.seq (WCode.region ?_)
  simp [c228_r3, boxV, flat]
  refine WCode.ret ?_
  simp
  exact q

def lim5 (a b c d e : Int) : List AV := [.int .i64 a, .int .i64 b, .int .i64 c, .int .i64 d, .int .i64 e]
noncomputable def hd122 (h : AH) (a b c d e : Int) : AH := ((h.row (lim5 a b c d e) 23 true).row [.int .i64 a, .int .i64 0, .slice none 0 0 0, .bool false, .bool false, .bool false, .int .i64 0] 359 true).row [.ptr (some (h.next + 1, 0)), .int .i64 1, .int .i64 a, .int .i64 b, .int .i64 c, .int .i64 d, .int .i64 e, .slice none 0 0 0, .bool false, .str [], .str [], .int .i64 0, .int .i64 0, .str [], .slice none 0 0 0, .int .i64 0] 275 true
noncomputable def rd51 (h : AH) (a b c d e : Int) : AH := (hd122 (h.row (lim5 a b c d e) 23 true) a b c d e).row [.str [], .str [], .int .i64 0, .int .i64 0, .str [], .slice none 0 0 0, .int .i64 0, .int .i64 0, .slice none 0 0 0, .int .i64 1, .int .i64 a, .int .i64 b, .int .i64 c, .int .i64 d, .int .i64 e, .str [], .ptr (some (h.next + 3, 0)), .ptr none, .bool false, .int .i64 0] 170 true

theorem head122 {a b c d e : Int} (h1 : 0 ≤ a) (h2 : a ≤ 65536) (q : Q (.ptr (some (h.next + 2, 0))) (hd122 h a b c d e)) : WCall E2 (.fn 122) [.int .i64 1, .agg (lim5 a b c d e)] h Q := by
  refine call2 F122 rfl (WCode.seq (WCode.region ?_))
  simp [c122, c122_r0, boxV, flat, lim5]
  refine WCode.seq (WCode.region ?_)
  simp [c122_r1, row_cell1]
  refine lines228 h1 h2 ?_
  simp
  refine WCode.seq (WCode.seq (WCode.region ?_))
  simp [c122_r2]
  refine WCode.condF (by simp) (WCode.skip ?_)
  simp
  refine WCode.seq (WCode.region ?_)
  simp [c122_r4, row_cellsAt_old, row_cellsAt, row_next, boxV, flat]
  refine WCode.ret ?_
  simp
  exact q

theorem reader51 {a b c d e : Int} (h1 : 0 ≤ a) (h2 : a ≤ 65536) (q : Q (.ptr (some (h.next + 4, 0))) (rd51 h a b c d e)) : WCall E2 (.fn 51) [.int .i64 1, .agg (lim5 a b c d e)] h Q := by
  refine call2 F51 rfl (WCode.seq (WCode.region ?_))
  have hc : (hd122 (h.row (lim5 a b c d e) 23 true) a b c d e).cellsAt (h.next, 0) 5 = some (lim5 a b c d e) := by
    unfold hd122
    rw [row_cellsAt_old _ _ _ _ (by simp [row_next]; omega), row_cellsAt_old _ _ _ _ (by simp [row_next]; omega), row_cellsAt_old _ _ _ _ (by simp [row_next])]
    exact row_cellsAt _ _ _ _ rfl rfl
  have hn : (hd122 (h.row (lim5 a b c d e) 23 true) a b c d e).next = h.next + 4 := rfl
  simp only [lim5] at hc hn
  simp [c51, c51_r0, boxV, flat, lim5]
  refine WCode.seq (WCode.region ?_)
  simp [c51_r1, row_cellsAt]
  refine head122 h1 h2 ?_
  simp
  refine WCode.seq (WCode.seq (WCode.region ?_))
  simp [c51_r2]
  refine WCode.condF (by simp) (WCode.skip ?_)
  simp
  refine WCode.seq (WCode.region ?_)
  simp [c51_r4, hc, hn, boxV, flat]
  refine WCode.ret ?_
  simp
  exact q
end Go.Proofs.YtjihmonajekomaaGreatDoor.Ax
