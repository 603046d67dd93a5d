/- The externs' answers as a summary of the evaluator's, proved sound. Conditions: none. -/
import Derived.Test.YtjihmonajekomaaGreatDoorS1
import Derived.Test.YtjihmonajekomaaGreatDoorAx25
namespace Go.Proofs.YtjihmonajekomaaGreatDoor.Ax
open Go

/-- How many octets are c. -/
def cntE (c : Nat) : List Nat → Nat
  | [] => 0
  | b :: l => if b == c then cntE c l + 1 else cntE c l
/-- The first octet that is c, seen from place i. -/
def idxE (c : Nat) : List Nat → Nat → Int
  | [], _ => -1
  | b :: l, i => if b == c then (i : Int) else idxE c l (i + 1)
def extS : Summary := fun f =>
  if f = 156 then some fun args h => match args with | [.str s, .int .u8 c] => some (.int .i64 (cntE (c.toNat % 256) s), h) | _ => none
  else if f = 441 then some fun args h => match args with | [.str s, .int .u8 c] => some (.int .i64 (idxE (c.toNat % 256) s 0), h) | _ => none
  else none

theorem byte_eq (c : Int) (b : UInt8) : (b.toNat == c.toNat % 256) = (b == c.toNat.toUInt8) := by
  rw [Bool.eq_iff_iff]
  simp [← UInt8.toNat_inj]

theorem cntE_byte (c : Int) : ∀ l : List UInt8, cntE (c.toNat % 256) (l.map UInt8.toNat) = Lib.countByte l c.toNat.toUInt8
  | [] => rfl
  | b :: l => by
    unfold Lib.countByte
    rw [List.count_cons]
    have ih := cntE_byte c l
    unfold Lib.countByte at ih
    simp only [List.map_cons, cntE, byte_eq, ih]
    split <;> simp_all

theorem idxE_byte (c : Int) : ∀ (l : List UInt8) (i : Nat), idxE (c.toNat % 256) (l.map UInt8.toNat) i = if Lib.indexByte l c.toNat.toUInt8 == -1 then -1 else Lib.indexByte l c.toNat.toUInt8 + i
  | [], i => rfl
  | b :: l, i => by
    have ih := idxE_byte c l (i + 1)
    have hg := Lib.indexByte_ge l c.toNat.toUInt8
    simp only [List.map_cons, idxE, byte_eq, Lib.indexByte, ih]
    by_cases h1 : (b == c.toNat.toUInt8) = true
    · simp [h1]
    · simp only [h1, if_false, Bool.false_eq_true]
      by_cases h2 : (Lib.indexByte l c.toNat.toUInt8 == -1) = true
      · simp [h2]
      · have h3 : Lib.indexByte l c.toNat.toUInt8 ≠ -1 := by simpa using h2
        have h4 : (Lib.indexByte l c.toNat.toUInt8 + 1 == -1) = false := beq_eq_false_iff_ne.2 (by omega)
        simp only [h2, h4, if_false, Bool.false_eq_true]
        omega

theorem extS_sound : SumSound Tryz.prog [] extS := by
  intro f s hs args h v h' e φ w0 w vs hvs hr
  have str : ∀ {t : List Nat} {c : Int}, args = [.str t, .int .u8 c] → ∃ b : ByteArray, vs = #[.string b, .int .u8 c] ∧ b.data.toList.map UInt8.toNat = t := by
    rintro t c rfl
    obtain ⟨l⟩ := vs
    simp only [VRs] at hvs
    obtain ⟨v1, l1, rfl, hv1, v2, l2, rfl, hv2, rfl⟩ := hvs
    simp only [VR] at hv1 hv2
    obtain ⟨b, rfl, hb⟩ := hv1
    subst hv2
    exact ⟨b, rfl, hb⟩
  unfold extS at hs
  split at hs
  · rename_i hf
    subst hf
    simp only [Option.some.injEq] at hs
    subst hs
    simp only at e
    split at e
    · rename_i t c
      simp only [Option.some.injEq, Prod.mk.injEq] at e
      obtain ⟨rfl, rfl⟩ := e
      obtain ⟨b, rfl, rfl⟩ := str rfl
      exact .inr ⟨_, w, φ, run156 w, by simp only [VR, cntE_byte], hr, Stp.refl _ _⟩
    · cases e
  · split at hs
    · rename_i hf
      subst hf
      simp only [Option.some.injEq] at hs
      subst hs
      simp only at e
      split at e
      · rename_i t c
        simp only [Option.some.injEq, Prod.mk.injEq] at e
        obtain ⟨rfl, rfl⟩ := e
        obtain ⟨b, rfl, rfl⟩ := str rfl
        refine .inr ⟨_, w, φ, run441 w, ?_, hr, Stp.refl _ _⟩
        rw [idxE_byte]
        simp only [VR]
        split
        · rename_i h1
          have : Lib.indexByte b.data.toList c.toNat.toUInt8 = -1 := by simpa using h1
          rw [this]
        · simp
      · cases e
    · cases hs
end Go.Proofs.YtjihmonajekomaaGreatDoor.Ax
