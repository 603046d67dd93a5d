/- strings.Builder's copyCheck and String over this program, wherever the builder lies. Conditions: as each theorem states. -/
import Derived.Test.YtjihmonajekomaaGreatDoorProg
import Derived.WalkKit
import Derived.ProofKit
import Derived.Below
import Derived.Lib.Builder
import Derived.Lib.UnsafeStr
import Derived.Laws.Externs
namespace Go.Proofs.YtjihmonajekomaaGreatDoor
open Go Go.RowKit
set_option maxHeartbeats 1000000
set_option maxRecDepth 100000
theorem info186 : ∃ j, Tryz.prog.info? 186 = some j ∧ j.size = 2 := by
  have h : (Tryz.prog.info? 186).map (·.size) = some 2 := by kernel_rfl
  exact Option.map_eq_some_iff.1 h

theorem cc_used (b o : Nat) (w : World) (h0 : w.cell? ⟨b, o, none⟩ = some (.pointer (some ⟨b, o, none⟩))) :
    Calls Tryz.prog 236 #[.pointer (some ⟨b, o, none⟩)] w fun e w' => e = .returned (.tuple #[]) ∧ w' = w := by
  obtain ⟨j, hj, hjs⟩ := info186
  go_enter Tryz.func236, Tryz.ntmps236
  go_wp2
  rw [Lib.run_neq_ptr_same w _ Tryz.underlying184 hj]
  go_wp2
  go_end0
  exact ⟨rfl, rfl⟩

theorem cc_fresh (b o : Nat) (w : World) (e : TypeId) (cells : Nat) (h0 : w.cell? ⟨b, o, none⟩ = some (.pointer none)) (hsh : w.shape? b = some (e, cells)) (hoff : o < cells) (hl : liesAt Tryz.prog Tryz.prog.depth e (cells / Tryz.prog.cellsOf e) o 186 1 = true) (hfz : w.frozen? ⟨b, o, none⟩ = false) :
    Calls Tryz.prog 236 #[.pointer (some ⟨b, o, none⟩)] w fun e w' => e = .returned (.tuple #[]) ∧ w' = w.setCell ⟨b, o, none⟩ (.pointer (some ⟨b, o, none⟩)) := by
  obtain ⟨j, hj, hjs⟩ := info186
  go_enter Tryz.func236, Tryz.ntmps236
  go_wp2
  rw [Lib.run_to_unsafe w ⟨b, o, none⟩ Tryz.underlying184 Tryz.underlying374 hj (by rw [hjs]; decide) hsh hoff]
  simp only [Result.andThen]
  rw [Oper.upon_value]
  go_wp2
  rw [run_callFunc_extern Tryz.func330 (by kernel_rfl) (by kernel_rfl) (by kernel_rfl) (e := Extern.AbiNoEscape.same) (by kernel_rfl)]
  rw [Lib.run_noEscape]
  simp only [Result.andThen]
  rw [Oper.upon_value]
  go_wp2
  rw [Lib.run_from_unsafe w ⟨b, o, none⟩ Tryz.underlying374 Tryz.underlying184 hj hsh hl]
  simp only [Result.andThen]
  rw [Oper.upon_value]
  go_wp2
  go_end0
  exact ⟨rfl, rfl⟩

theorem b_string (b o : Nat) (w W' : World) (q : Option Addr) (n c : Nat) (p : Option Addr) (s : ByteArray) (h0 : w.cell? ⟨b, o + 1, none⟩ = some (.slice q n c))
    (hSD : (Builtin.unsafeSliceData_ #[63] 292 #[.slice q n c]).run Tryz.prog w.drew = .ok (.pointer p) w.drew)
    (hUS : (Builtin.unsafeString_ #[292, 3] 9 #[.pointer p, .int .i64 n]).run Tryz.prog w.drew = .ok (.string s) W') :
    Calls Tryz.prog 154 #[.pointer (some ⟨b, o, none⟩)] w fun e w' => e = .returned (.string s) ∧ w' = W' := by
  have c1 : w.drew.cell? ⟨b, o + 1, none⟩ = some (.slice q n c) := h0
  go_enter Tryz.func154, Tryz.ntmps154
  go_wp2
  go_region
  all_goals (go_wp2; go_ret; exact ⟨rfl, rfl⟩)
end Go.Proofs.YtjihmonajekomaaGreatDoor
