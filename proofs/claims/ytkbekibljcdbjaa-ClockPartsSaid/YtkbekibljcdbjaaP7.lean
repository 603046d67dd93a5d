/- Maps of ints, and what is sorted: plain facts. Conditions: as each theorem states. -/
import Derived.Test.YtkbekibljcdbjaaC2
import Derived.Test.YtkbekibljcdbjaaP1
import Derived.Test.YtkbekibljcdbjaaAx25
namespace Go.Proofs.Ytkbekibljcdbjaa.Ax
open Go
set_option linter.unusedVariables false
set_option linter.unusedSimpArgs false

/-- A map's entries: key, value, birth. -/
abbrev ML := List (Int × Int × Nat)
def ME (l : ML) : List (AV × AV × Nat) := l.map fun r => (.int .i64 r.1, .int .i64 r.2.1, r.2.2)

def mfi (k : Int) : ML → Nat → Option (Nat × AV)
  | [], _ => none
  | r :: t, i => if r.1 = k then some (i, .int .i64 r.2.1) else mfi k t (i + 1)

def mget (l : ML) (k : Int) : Option Int :=
  match l with
  | [] => none
  | r :: t => if r.1 = k then some r.2.1 else mget t k

theorem findIn_ME (h : AH) (k : Int) : ∀ (l : ML) (i : Nat), findIn h .int (.int .i64 k) (ME l) i = some (mfi k l i)
  | [], _ => rfl
  | r :: t, i => by
    simp only [ME, List.map_cons, findIn, mfi]
    by_cases c : r.1 = k
    · simp [EqTy.eq, eqInt, c]
    · have c' : ¬ k = r.1 := fun e => c e.symm
      have e : (k == r.1) = false := by simpa using c'
      have := findIn_ME h k t (i + 1)
      simp only [EqTy.eq, eqInt, c, if_false, e]
      exact this

theorem findKey_ME (h : AH) (k : Int) (l : ML) : findKeyIn h .int (.int .i64 k) (ME l) = some (mfi k l 0) := by
  simp [findKeyIn, EqTy.fits, findIn_ME]

theorem mfi_get (k : Int) : ∀ (l : ML) (i : Nat), (mfi k l i).map (·.2) = (mget l k).map (.int .i64)
  | [], _ => rfl
  | r :: t, i => by
    simp only [mfi, mget]
    by_cases c : r.1 = k
    · simp [c]
    · simp only [c, if_false]; exact mfi_get k t (i + 1)

theorem mfi_some {k : Int} : ∀ {l : ML} {i j : Nat} {v : AV}, mfi k l i = some (j, v) → i ≤ j ∧ ∃ r, l[j - i]? = some r ∧ r.1 = k ∧ v = .int .i64 r.2.1
  | [], _, _, _, h => by cases h
  | r :: t, i, j, v, h => by
    simp only [mfi] at h
    by_cases c : r.1 = k
    · simp [c] at h
      obtain ⟨rfl, rfl⟩ := h
      exact ⟨Nat.le_refl _, r, by simp, c, rfl⟩
    · simp only [c, if_false] at h
      obtain ⟨h1, r', h2, h3, h4⟩ := mfi_some h
      refine ⟨by omega, r', ?_, h3, h4⟩
      rw [show j - i = j - (i + 1) + 1 by omega]
      simpa using h2

theorem mget_none {k : Int} : ∀ {l : ML}, mget l k = none ↔ ∀ r ∈ l, r.1 ≠ k
  | [] => by simp [mget]
  | r :: t => by
    simp only [mget, List.mem_cons, forall_eq_or_imp]
    by_cases c : r.1 = k
    · simp [c]
    · simp only [c, if_false, mget_none (l := t), ne_eq, not_false_eq_true, true_and]

/-- Keys once. -/
def Once (l : ML) : Prop := (l.map (·.1)).Nodup

theorem mget_mem {l : ML} (ho : Once l) {k t : Int} : mget l k = some t ↔ ∃ b, (k, t, b) ∈ l := by
  induction l with
  | nil => simp [mget]
  | cons r l ih =>
    obtain ⟨r1, r2, r3⟩ := r
    have ho' : Once l := (List.nodup_cons.1 ho).2
    have hn := (List.nodup_cons.1 ho).1
    simp only [mget]
    by_cases c : r1 = k
    · subst c
      simp only [if_true, Option.some.injEq, List.mem_cons, Prod.mk.injEq]
      constructor
      · rintro rfl; exact ⟨r3, .inl ⟨trivial, rfl, rfl⟩⟩
      · rintro ⟨b, ⟨_, h, _⟩ | h⟩
        · exact h.symm
        · exact (hn (List.mem_map.2 ⟨_, h, rfl⟩)).elim
    · have c' : ¬ k = r1 := fun e => c e.symm
      simp only [c, if_false, ih ho', List.mem_cons, Prod.mk.injEq, c', false_and, false_or]

end Go.Proofs.Ytkbekibljcdbjaa.Ax
