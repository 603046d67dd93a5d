/- ClockParts: the walk by the evaluator, then the law's row: whatever is set and however the ticks come, true; what came in reads as it did. Conditions: none. -/
import Derived.Test.YtkbekibljcdbjaaRows
import Derived.WalkKit
import Derived.ProofKit
import Derived.OpenShut
import Derived.ShutString
import Derived.ChangeOld
import Derived.Below
import Derived.Test.YtkbekibljcdbjaaAx25
import Derived.Test.YtkbekibljcdbjaaP15
namespace Go.Proofs.Ytkbekibljcdbjaa.clockParts
open Go.ChangeShapes Go.WideShapes Go.ChangeAt Go.RowKit
set_option linter.unusedVariables false

theorem own : ownKnob Try.prog.godebug = none := by kernel_rfl
theorem laidOut : laidOutB Try.prog = true := by kernel_rfl
theorem cells72 : Try.prog.cellsOf 72 = 3 := by kernel_rfl
theorem cells3 : Try.prog.cellsOf 3 = 1 := by kernel_rfl

section
variable {H : Type} {enc : TypeId × Value → H} {w : World} {base : Nat} {sp : Nat → Bool} {held : Bool}
set_option maxRecDepth 100000 in
theorem act_row (n : Nat) (cs : List Value) (x : DataW H × List MemPlace) (h : DataW.trod enc Try.prog w base sp held n 72 cs = some x) (hl : cs.length = 3) : ∃ y : Int × Int × Int, ∀ φ, Ax.VRs φ (Ax.actK y) cs := by
  obtain ⟨xs, k, _, _, _, hlen, hf⟩ := DataW.trod_struct Try.underlying72 h
  match cs, hl with
  | [c0, c1, c2], _ =>
    have g0 : DataW.trod enc Try.prog w base sp held k 3 [c0] = xs[0]? := by have := hf 0 _ rfl; simpa [cells3] using this
    have g1 : DataW.trod enc Try.prog w base sp held k 3 [c1] = xs[1]? := by have := hf 1 _ rfl; simpa [cells3] using this
    have g2 : DataW.trod enc Try.prog w base sp held k 3 [c2] = xs[2]? := by have := hf 2 _ rfl; simpa [cells3] using this
    match xs, hlen with
    | [x0, x1, x2], _ =>
      obtain ⟨n0, e0, _, _⟩ := DataW.trod_int Try.underlying3 g0
      obtain ⟨n1, e1, _, _⟩ := DataW.trod_int Try.underlying3 g1
      obtain ⟨n2, e2, _, _⟩ := DataW.trod_int Try.underlying3 g2
      simp at e0 e1 e2
      subst e0 e1 e2
      exact ⟨(n0, n1, n2), fun φ => by simp [Ax.actK, Ax.VRs, Ax.VR]⟩
set_option maxRecDepth 100000 in
theorem int_row (n : Nat) (cs : List Value) (x : DataW H × List MemPlace) (h : DataW.trod enc Try.prog w base sp held n 3 cs = some x) (hl : cs.length = 1) : ∃ y : Int, ∀ φ, Ax.VRs φ (Ax.intC y) cs := by
  match cs, hl with
  | [c0], _ =>
    obtain ⟨n0, e0, _, _⟩ := DataW.trod_int Try.underlying3 h
    simp at e0
    subst e0
    exact ⟨n0, fun φ => by simp [Ax.intC, Ax.VRs, Ax.VR]⟩
end


/-! ### The walk, by the evaluator. -/
set_option maxRecDepth 100000 in
theorem walk {H : Type} {enc : TypeId × Value → H} (v0 v1 : Value) (w : World) {fuel0 fuel1 : Nat} {ds0 ds1 : DataW H} {ps0 ps1 : List MemPlace} {base : Nat} (hok0 : Value.okWide Try.prog w .any base 67 v0) (hd0 : DataW.trod enc Try.prog w 0 (fun _ => true) true fuel0 67 [v0] = some (ds0, ps0))
    (hok1 : Value.okWide Try.prog w .any base 22 v1) (hd1 : DataW.trod enc Try.prog w 0 (fun _ => true) true fuel1 22 [v1] = some (ds1, ps1)) :
    Calls Try.prog 8 #[v0, v1] w fun e w' => e = .returned (.bool true) ∧ Below w.heap.size w w' := by
  obtain ⟨va, L, φ, b, hr, ha, _, hv, hin⟩ := Ax.slice_in (ifs := []) (Ax.Rel.init Try.prog [] w) Ax.AllRo.H0 Try.underlying67 cells72 (by omega) (fun _ => rfl) act_row hok0 hd0
  obtain ⟨vp, P, φ2, b2, hr2, ha2, hx2, hv2, hip⟩ := Ax.slice_in (ifs := []) hr ha Try.underlying22 cells3 (by omega) (fun _ => rfl) int_row hok1 hd1
  refine Ax.ncalls_bool hr2 (Ax.parts8 (L := L) (P := P) (va := va) (vp := vp) (hin.keep (Ax.Keep.push _ b2 []) (by simp)) hip) (Ax.VRs.cons (Ax.VR.ext hx2 _ _ hv) (Ax.VRs.cons hv2 Ax.VRs.nil)) ⟨Try.f8, Try.func8, rfl⟩

/-! ### THE ROW's STEP: WRITTEN OUT: LEAVE IT -/
set_option maxRecDepth 100000 in
theorem lifted (os : Os) (started : os.Started) (H : Type) (enc : TypeId × Value → H) :
    ReturnsInHanded {} Try.checked os 8 .any (Rows.clockPartsSpec.pre6 enc Try.prog Try.f8 Rows.clockPartsRow.domain false) (Rows.clockPartsSpec.post enc Try.prog Try.f8 false true false false) := by
  refine returnsInHanded_of_change (C := Try.checked) own started (by kernel_rfl) Try.func8
    (ChangeSpec.witness6 (enc := enc) (C := Try.checked) false ⟨#[], #[.slice none 0 0, .slice none 0 0], []⟩ 8 (by kernel_rfl) (by kernel_rfl) (by kernel_rfl) (by kernel_rfl)) ?_
  intro W base args ds gs before hval0 hW hcnd _
  have hval : ∀ (j : Nat) t v, Try.f8.params[j]? = some t → args[j]? = some v → Value.okWide Try.prog W .any base t v := hval0
  have hW' := hW
  obtain ⟨p, q, hA0, hV, rfl, hfz, hnd⟩ := hW
  have hA : DataW.TrodAll enc Try.prog W 0 (fun _ => true) true Try.f8.params.toList args.toList ds p := hA0
  rw [Try.params8] at hA hval
  obtain ⟨v0, vs0, d0, ds0, p0, q0, hargs, rfl, rfl, h0, r0⟩ := trodAll_cons hA
  obtain ⟨v1, vs1, d1, ds1, p1, q1, rfl, rfl, rfl, h1, r1⟩ := trodAll_cons r0
  obtain ⟨rfl, rfl, rfl⟩ := trodAll_nil r1
  obtain rfl : args = #[v0, v1] := by cases args; simp_all
  obtain ⟨rfl, rfl⟩ := trodVars_none hV
  have k0 := h0
  have lt0 : ∀ x ∈ p0, x.block < W.heap.size := by obtain ⟨m, hm⟩ := k0; exact DataW.trod_lt m _ _ _ hm
  have hok0 := hval 0 67 v0 rfl rfl
  obtain ⟨a0, len0, cap0, rfl⟩ := okWide_slice Try.underlying67 hok0
  obtain ⟨fuel0, hf0⟩ := h0
  have k1 := h1
  have lt1 : ∀ x ∈ p1, x.block < W.heap.size := by obtain ⟨m, hm⟩ := k1; exact DataW.trod_lt m _ _ _ hm
  have hok1 := hval 1 22 v1 rfl rfl
  obtain ⟨a1, len1, cap1, rfl⟩ := okWide_slice Try.underlying22 hok1
  obtain ⟨fuel1, hf1⟩ := h1
  refine (walk _ _ W hok0 hf0 hok1 hf1).mono fun e W' ⟨he, bel⟩ => ?_
  subst he
  exact ⟨_, rfl, _, _, _, [], _, [], hW', trodAll_mk1 (shut_bool Try.underlying4 _), (trodAll_cons_mk (Below.trod laidOut (by kernel_rfl) (of_decide_eq_true (by kernel_rfl)) k0 bel lt0) (trodAll_cons_mk (Below.trod laidOut (by kernel_rfl) (of_decide_eq_true (by kernel_rfl)) k1 bel lt1) trodAll_mk0)), rfl, bel.frame _, fun h => by cases h⟩

theorem over : Rows.clockPartsRow.holds Try.pinned (OpenSpec.ofChange Rows.clockPartsSpec) :=
  OpenClaim.holds_of_wide 8 Try.f8 rfl rfl rfl rfl rfl rfl rfl ⟨rfl, rfl, rfl, rfl, rfl⟩ rfl rfl rfl rfl rfl (by kernel_rfl) Try.func8 (by kernel_rfl)
    (of_decide_eq_true (by kernel_rfl)) (by unfold Func.isWrapper; first | (rw [if_pos (by decide +kernel)]; kernel_rfl) | (rw [if_neg (by decide +kernel)]; exact ⟨rfl, rfl⟩))
    (fun os started H enc _ => lifted os started H enc)

/-- ████ THE STATEMENT ████ -/
theorem proved : Rows.ClockPartsSaid := over
#print axioms proved
end Go.Proofs.Ytkbekibljcdbjaa.clockParts
