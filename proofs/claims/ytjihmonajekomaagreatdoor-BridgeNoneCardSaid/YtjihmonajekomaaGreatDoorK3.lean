/- BridgeNone's row: its closed facts together. Conditions: none. -/
import Derived.Test.YtjihmonajekomaaGreatDoorJ3
import Derived.JoinedOf
namespace Go.Proofs.YtjihmonajekomaaGreatDoor.bridgeNone
open Go
theorem goes_of {P : Program} {c : OpenClaim} {f : FuncId} (h1 : P.funcNamed c.func = some f) (h2 : c.start = .entering) (h3 : ((P.closure f).any fun g => (P.funcs[g]?).any Func.goes) = false) (h4 : P.funcs.any Func.goes = false) : false = c.goesBy P := by
  unfold OpenClaim.goesBy Program.goesAt Program.goesFrom
  rw [h1, h2]
  simp only [Option.any_some, Program.goes, h3, h4, Bool.and_false, Bool.or_false]
theorem goes : false = Rows.bridgeNoneRow.goesBy Tryz.prog := goes_of fnm rfl goA goB
theorem band {a b : Bool} (ha : a = true) (hb : b = true) : (a && b) = true := by rw [ha, hb]; rfl
theorem closed : joinedFacts Tryz.prog 3 Tryz.f3 Rows.bridgeNoneSpec Rows.bridgeNoneRow = true := by
  unfold joinedFacts
  exact band (band (band (band (band (band (band (band (band (band (band (band (band (band (band (band (band (band (band (band (band (band (band (band (band (band (band (band (band (band (band (by kernel_rfl) laidOut) mapsRow) (by kernel_rfl)) (by kernel_rfl)) (by kernel_rfl)) (by kernel_rfl)) (by kernel_rfl)) (by kernel_rfl)) inp) unf) rec) nam) (by kernel_rfl)) (by kernel_rfl)) (by kernel_rfl)) (by kernel_rfl)) (by kernel_rfl)) (by kernel_rfl)) (by kernel_rfl)) (by kernel_rfl)) (by kernel_rfl)) (by kernel_rfl)) (by kernel_rfl)) heard) enters) (by kernel_rfl)) (by kernel_rfl)) (by kernel_rfl)) (by kernel_rfl)) (by kernel_rfl)) (by kernel_rfl)
end Go.Proofs.YtjihmonajekomaaGreatDoor.bridgeNone
