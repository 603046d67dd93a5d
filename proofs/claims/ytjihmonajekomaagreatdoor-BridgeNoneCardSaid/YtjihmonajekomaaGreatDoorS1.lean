/- Functions without a body: what the model answers at bytealg.CountString and IndexByteString. Conditions: as each theorem states. -/
import Derived.Test.YtjihmonajekomaaGreatDoorProg
import Derived.WalkKit
import Derived.ProofKit
import Derived.Lib.Bytealg
namespace Go.Proofs.YtjihmonajekomaaGreatDoor.Ax
open Go

theorem ext_run {P : Program} {f : FuncId} {fn : Func} (h : P.funcs[f]? = some fn) (hn : (fn.name == "runtime.NumGoroutine") = false) (hb : fn.body.isNone = true) {e : Array Value → Sem Value} (h0 : (Extern.findNext fn).isNone = true) (h1 : Extern.find fn = some e) {args : Array Value} {w w' : World} {v : Value}
    (hr : (e args).run P w = .ok v w') : (callFunc f args).run P w = .ok (.value v) w' := by
  have h0' : Extern.findNext fn = none := by simpa using h0
  have hn' : ¬ fn.name = "runtime.NumGoroutine" := by simpa using hn
  have hb' : fn.body = none := by simpa using hb
  unfold callFunc
  simp [h, hn', hb', h0', h1, hr]

theorem find156 : Extern.find Tryz.f156 = some Go.Extern.BytealgCount.count := by kernel_rfl
theorem find441 : Extern.find Tryz.f441 = some Go.Extern.BytealgIndexByte.indexByte := by kernel_rfl
theorem next156 : (Extern.findNext Tryz.f156).isNone = true := by kernel_rfl
theorem next441 : (Extern.findNext Tryz.f441).isNone = true := by kernel_rfl

theorem run156 {s : ByteArray} {c : Int} (w : World) : (callFunc 156 #[.string s, .int .u8 c]).run Tryz.prog w = .ok (.value (.int .i64 (Lib.countByte s.data.toList c.toNat.toUInt8))) w :=
  ext_run Tryz.func156 (by kernel_rfl) (by kernel_rfl) next156 find156 (Lib.run_countString s c w)

theorem run441 {s : ByteArray} {c : Int} (w : World) : (callFunc 441 #[.string s, .int .u8 c]).run Tryz.prog w = .ok (.value (.int .i64 (Lib.indexByte s.data.toList c.toNat.toUInt8))) w :=
  ext_run Tryz.func441 (by kernel_rfl) (by kernel_rfl) next441 find441 (Lib.run_indexByteString s c w)
end Go.Proofs.YtjihmonajekomaaGreatDoor.Ax
