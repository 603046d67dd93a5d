/- More rules of the evaluator without a bound: arrays' places, strings' iterators whatever the octets. Conditions: as each theorem states. -/
import Derived.Test.YtjihmonajekomaaGreatDoorAx30
import Derived.Lib.RuneCount
namespace Go.Proofs.YtjihmonajekomaaGreatDoor.Ax
open Go
set_option linter.unusedVariables false

/-! ### More operations -/
section ops
variable {C : CallP} {mt : Methods} {env : List AV} {h : AH} {Q : AV → AH → Prop}
def idxAddrArrV (m size : Nat) (x i : AV) : Option AV :=
  match x, i with
  | .ptr (some a), .int _ n => if 0 ≤ n ∧ n < (m : Int) then some (.ptr (some (a.1, a.2 + n.toNat * size))) else none
  | _, _ => none
@[simp] theorem idxAddrArrV_at (m size : Nat) (a : Nat × Nat) (k : IntKind) (n : Int) : idxAddrArrV m size (.ptr (some a)) (.int k n) = if 0 ≤ n ∧ n < (m : Int) then some (.ptr (some (a.1, a.2 + n.toNat * size))) else none := nr rfl
@[simp] theorem wp_idxAddrArr {m size : Nat} {x i : AOpd} : wpOp C mt (.idxAddrArr m size x i) env h Q = BQ (idxAddrArrV m size (x.ev env) (i.ev env)) (vK Q h) := nr rfl
def sliceArrV (h : AH) (n size : Nat) (x : AV) (lo hi mx : Option AV) : Option AV :=
  match x with
  | .ptr (some a) =>
    match h.get a.1 with
    | .cells cs .. =>
      if a.2 + n * size ≤ cs.length then
        (bounds n n lo hi mx).map fun b => .slice (some (a.1, a.2 + b.1 * size)) (b.2.1 - b.1) (b.2.2 - b.1) size
      else none
    | _ => none
  | _ => none
theorem sliceArrV_at {n size b o : Nat} {cs : List (Option AV)} {e F base : Nat} {sh ro pl : Bool} (hg : h.get b = .cells cs e F base sh ro pl) (hl : o + n * size ≤ cs.length) {lo hi mx : Option AV} {l u m : Nat} (hb : bounds n n lo hi mx = some (l, u, m)) : sliceArrV h n size (.ptr (some (b, o))) lo hi mx = some (.slice (some (b, o + l * size)) (u - l) (m - l) size) := by
  simp only [sliceArrV, hg, if_pos hl, hb, Option.map]
@[simp] theorem wp_sliceArr {n size : Nat} {x : AOpd} {lo hi mx : Option AOpd} : wpOp C mt (.sliceArr n size x lo hi mx) env h Q = BQ (sliceArrV h n size (x.ev env) (lo.map (·.ev env)) (hi.map (·.ev env)) (mx.map (·.ev env))) (vK Q h) := nr rfl
end ops

/-- A string's iterator, stepped: over, or some rune. -/
theorem nextStr_any {h : AH} {r : Nat} {s : List Nat} {pos : Nat} (hg : h.get r = .strIter s pos) :
    (s.length ≤ pos ∧ nextStrV h (.ptr (some (r, 0))) = some (.tuple [.bool false], h)) ∨
    (pos < s.length ∧ ∃ (c w : Nat), 1 ≤ w ∧ nextStrV h (.ptr (some (r, 0))) = some (.tuple [.bool true, .int .i64 pos, .int .i32 c], h.set r (.strIter s (pos + w)))) := by
  by_cases hp : pos < s.length
  · refine .inr ⟨hp, ?_⟩
    have hb : s[pos]? = some s[pos] := List.getElem?_eq_getElem hp
    by_cases h1 : s[pos] < 128
    · exact ⟨s[pos], 1, Nat.le_refl _, nextStrV_some hg hb h1⟩
    · refine ⟨(runeAt s pos).1, (runeAt s pos).2, ?_, ?_⟩
      · exact Lib.decode_width_pos _ _ (by simpa [ByteArray.size] using hp)
      · simp only [nextStrV, hg, hb, if_neg h1]
  · exact .inl ⟨by omega, nextStrV_none hg (List.getElem?_eq_none (by omega))⟩

theorem wrap_range (n : Int) : -9223372036854775808 ≤ IntKind.i64.wrap n ∧ IntKind.i64.wrap n ≤ 9223372036854775807 := by
  rw [IntKind.wrap_i64]; omega
end Go.Proofs.YtjihmonajekomaaGreatDoor.Ax
