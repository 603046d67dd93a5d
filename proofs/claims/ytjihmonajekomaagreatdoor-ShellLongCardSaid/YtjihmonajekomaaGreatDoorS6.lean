/- strings.Index at one octet, Cut at 'name ..', Count; a line 'name ..' of the shell. Conditions: as each theorem states. -/
import Derived.Test.YtjihmonajekomaaGreatDoorS5
namespace Go.Proofs.YtjihmonajekomaaGreatDoor.Ax
open Go
set_option linter.unusedVariables false
set_option linter.unusedSimpArgs false

theorem index351 {h : AH} {s : List Nat} {c : Nat} {Q : AV → AH → Prop} (hc : c < 256) (q : Q (.int .i64 (idxE c s 0)) h) : WCall E1 (.fn 351) [.str s, .int .u8 c] h Q := by
  refine call1 F351 (by decide) (WCode.seq (WCode.region ?_))
  simp [c351, c351_r0]
  refine WCode.seq (WCode.region ?_)
  simp [c351_r1]
  refine ext441 ?_
  simp [Nat.mod_eq_of_lt hc]
  refine WCode.ret ?_
  simp
  exact q

theorem index244 {h : AH} {s : List Nat} {c : Nat} {Q : AV → AH → Prop} (hc : c < 256) (hne : ([c] == s) = false) (q : Q (.int .i64 (idxE c s 0)) h) : WCall E1 (.fn 244) [.str s, .str [c]] h Q := by
  refine call1 F244 (by decide) (WCode.seq (WCode.region ?_))
  simp [c244, c244_r0]
  refine WCode.seq (WCode.region ?_)
  simp [c244_r1]
  refine WCode.seq (WCode.block (WCode.seq (WCode.region ?_)))
  simp [c244_r2, hne]
  refine WCode.condF (by simp) (WCode.seq (WCode.region ?_))
  simp [c244_r4]
  refine WCode.condT (by simp) (WCode.seq (WCode.region ?_))
  simp [c244_r5, byteAV]
  refine index351 hc ?_
  simp
  refine WCode.ret ?_
  simp
  exact q

theorem index157 {h : AH} {s : List Nat} {c : Nat} {Q : AV → AH → Prop} (hc : c < 256) (hne : ([c] == s) = false) (q : Q (.int .i64 (idxE c s 0)) h) : WCall E1 (.fn 157) [.str s, .str [c]] h Q := by
  refine call1 F157 (by decide) (WCode.seq (WCode.region ?_))
  simp [c157, c157_r0]
  refine WCode.seq (WCode.region ?_)
  simp [c157_r1]
  refine index244 hc hne ?_
  simp
  refine WCode.ret ?_
  simp
  exact q

/-- A line 'name ..'. -/
def nameL (s : List Nat) : List Nat := 110 :: 97 :: 109 :: 101 :: 32 :: s

theorem cut246 {h : AH} {s : List Nat} {Q : AV → AH → Prop} (hl : s.length < 100000) (q : Q (.tuple [.str [110, 97, 109, 101], .str s, .bool true]) h) : WCall E1 (.fn 246) [.str (nameL s), .str [32]] h Q := by
  refine call1 F246 (by decide) (WCode.seq (WCode.region ?_))
  simp [c246, c246_r0]
  refine WCode.seq (WCode.seq (WCode.region ?_))
  simp [c246_r1]
  refine index244 (by omega) (by simp [nameL]) ?_
  simp [nameL, idxE]
  refine WCode.seq (WCode.region ?_)
  simp [c246_r2]
  refine WCode.condT (by simp) (WCode.seq (WCode.draw ?_))
  have e1 : bounds (s.length + 1 + 1 + 1 + 1 + 1) (s.length + 1 + 1 + 1 + 1 + 1) none (some (.int .i64 4)) none = some (0, 4, s.length + 1 + 1 + 1 + 1 + 1) := bounds_eq (.inl ⟨rfl, rfl⟩) (.inr ⟨.i64, rfl⟩) (by omega) (by omega)
  have e2 : bounds (s.length + 1 + 1 + 1 + 1 + 1) (s.length + 1 + 1 + 1 + 1 + 1) (some (.int .i64 5)) none none = some (5, s.length + 1 + 1 + 1 + 1 + 1, s.length + 1 + 1 + 1 + 1 + 1) := bounds_eq (.inr ⟨.i64, rfl⟩) (.inl ⟨rfl, rfl⟩) (by omega) (by omega)
  have e5 : IntKind.i64.wrap 5 = 5 := rfl
  simp [c246_r3, e1, e2, e5]
  refine WCode.ret ?_
  simp
  exact q

theorem cut160 {h : AH} {s : List Nat} {Q : AV → AH → Prop} (hl : s.length < 100000) (q : Q (.tuple [.str [110, 97, 109, 101], .str s, .bool true]) h) : WCall E1 (.fn 160) [.str (nameL s), .str [32]] h Q := by
  refine call1 F160 (by decide) (WCode.seq (WCode.region ?_))
  simp [c160, c160_r0]
  refine WCode.seq (WCode.region ?_)
  simp [c160_r1]
  refine cut246 hl ?_
  simp
  refine WCode.ret ?_
  simp
  exact q

/-- What a line 'name ..' may hold here. -/
structure Good (s : List Nat) : Prop where
  len : s.length < 100000
  ascii : ∀ b ∈ s, b < 128
  lf : 10 ∉ s
  sp : ∀ x, AV.str x ∈ specials → ¬ x.length = s.length

theorem line88 {h : AH} {d : AV} {s : List Nat} {Q : AV → AH → Prop} (g : Good s) (q : ∀ t h', Keep h h' [] → Q (.str t) h') : WCall E1 (.fn 88) [d, .str (nameL s)] h Q := by
  refine call1 F88 (by decide) (WCode.seq (WCode.region ?_))
  simp [c88, c88_r0]
  refine WCode.seq (WCode.region ?_)
  simp [c88_r1]
  refine cut160 g.len ?_
  simp
  refine WCode.seq (WCode.seq (WCode.region ?_))
  simp [c88_r2]
  refine WCode.block (WCode.seq (WCode.region ?_))
  simp [c88_r3]
  refine WCode.condF (by simp) (WCode.seq (WCode.region ?_))
  simp [c88_r5]
  refine WCode.condF (by simp) (WCode.seq (WCode.region ?_))
  simp [c88_r7]
  refine WCode.condF (by simp) (WCode.seq (WCode.region ?_))
  simp [c88_r9]
  refine WCode.condF (by simp) (WCode.seq (WCode.region ?_))
  simp [c88_r11]
  refine WCode.condT (by simp) (WCode.seq (WCode.region ?_))
  simp [c88_r12]
  refine name165 g.len g.ascii g.sp fun t h' k => ?_
  simp
  refine WCode.ret ?_
  simp
  exact q t h' k

theorem count86 {h : AH} {s : List Nat} {c : Nat} {Q : AV → AH → Prop} (hc : c < 256) (q : Q (.int .i64 (cntE c s)) h) : WCall E1 (.fn 86) [.str s, .str [c]] h Q := by
  refine call1 F86 (by decide) (WCode.seq (WCode.region ?_))
  simp [c86, c86_r0]
  refine WCode.seq (WCode.seq (WCode.region ?_))
  simp [c86_r1]
  refine WCode.condF (by simp) (WCode.skip ?_)
  simp
  refine WCode.seq (WCode.seq (WCode.region ?_))
  simp [c86_r3]
  refine WCode.condT (by simp) (WCode.seq (WCode.region ?_))
  simp [c86_r4, byteAV]
  refine ext156 ?_
  simp [Nat.mod_eq_of_lt hc]
  refine WCode.ret ?_
  simp
  exact q

/-! ### Lines -/
/-- The lines of names, ended by LF each. -/
def textOf : List (List Nat) → List Nat → List Nat
  | [], last => last
  | x :: r, last => nameL x ++ 10 :: textOf r last

theorem idxE_none {c : Nat} : ∀ {s : List Nat} {i : Nat}, c ∉ s → idxE c s i = -1
  | [], i, _ => rfl
  | b :: l, i, h => by
    simp only [List.mem_cons, not_or] at h
    have hb : (b == c) = false := beq_eq_false_iff_ne.2 fun e => h.1 e.symm
    simp only [idxE, hb, Bool.false_eq_true, if_false]
    exact idxE_none h.2
theorem idxE_at {c : Nat} : ∀ {x r : List Nat} {i : Nat}, c ∉ x → idxE c (x ++ c :: r) i = ((i + x.length : Nat) : Int)
  | [], r, i, _ => by simp [idxE]
  | b :: l, r, i, h => by
    simp only [List.mem_cons, not_or] at h
    have hb : (b == c) = false := beq_eq_false_iff_ne.2 fun e => h.1 e.symm
    simp only [List.cons_append, idxE, hb, Bool.false_eq_true, if_false]
    rw [idxE_at h.2]
    simp only [List.length_cons]
    congr 1; omega
theorem cntE_append (c : Nat) : ∀ (x y : List Nat), cntE c (x ++ y) = cntE c x + cntE c y
  | [], y => by simp [cntE]
  | b :: l, y => by
    simp only [List.cons_append, cntE, cntE_append c l y]
    split <;> omega
theorem cntE_none {c : Nat} : ∀ {s : List Nat}, c ∉ s → cntE c s = 0
  | [], _ => rfl
  | b :: l, h => by
    simp only [List.mem_cons, not_or] at h
    have hb : (b == c) = false := beq_eq_false_iff_ne.2 fun e => h.1 e.symm
    simp only [cntE, hb, Bool.false_eq_true, if_false]
    exact cntE_none h.2
theorem nameL_lf {s : List Nat} (h : 10 ∉ s) : 10 ∉ nameL s := by
  simp only [nameL, List.mem_cons, not_or]
  exact ⟨by omega, by omega, by omega, by omega, by omega, h⟩
theorem cnt_text {last : List Nat} (hl : 10 ∉ last) : ∀ (ls : List (List Nat)), (∀ x ∈ ls, 10 ∉ x) → cntE 10 (textOf ls last) = ls.length
  | [], _ => cntE_none hl
  | x :: r, h => by
    simp only [textOf, cntE_append, cntE_none (nameL_lf (h x (by simp))), cntE, beq_self_eq_true, if_true, List.length_cons]
    rw [cnt_text hl r fun y hy => h y (by simp [hy])]; omega
end Go.Proofs.YtjihmonajekomaaGreatDoor.Ax
