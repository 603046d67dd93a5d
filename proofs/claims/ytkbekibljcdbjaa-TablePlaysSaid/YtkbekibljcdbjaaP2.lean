/- What the table's functions do, by the evaluator. Conditions: as each theorem states. -/
import Derived.Test.YtkbekibljcdbjaaP1
namespace Go.Proofs.Ytkbekibljcdbjaa.Ax
open Go
set_option linter.unusedVariables false
set_option linter.unusedSimpArgs false

def slotC (s : Int × Bool) : List AV := [.int .i64 s.1, .bool s.2]

/-- How many slots are taken. -/
def many (S : List (Int × Bool)) : Nat := S.countP (·.2)

theorem many_le (S : List (Int × Bool)) : many S ≤ S.length := List.countP_le_length

structure TableAt (h : AH) (p : Nat) (S : List (Int × Bool)) (F : Nat) : Prop where
  ne : F ≠ p
  is : ∃ v, h.get p = .cells [some v, some (.int .i64 (many S : Nat))] 89 p 0 false false true ∧ IsSl h v 93 2 slotC S F

theorem TableAt.lt {h : AH} {p : Nat} {L F} (hp : TableAt h p L F) : p < h.next := by
  obtain ⟨v, h1, h2⟩ := hp.is
  exact cells_lt h1

theorem TableAt.keep {h h' : AH} {p : Nat} {L F S} (hp : TableAt h p L F) (k : Keep h h' S) (h1 : p ∉ S) (h2 : F ∉ S) : TableAt h' p L F := by
  obtain ⟨v, a, b⟩ := hp.is
  exact ⟨hp.ne, v, k.cells a hp.lt h1, b.keep k h2⟩

theorem len31 {h : AH} {p : Nat} {S F} {Q : AV → AH → Prop} (hp : TableAt h p S F) (q : Q (.int .i64 (many S : Nat)) h) : WCall E0 (.fn 31) [.ptr (some (p, 0))] h Q := by
  obtain ⟨v, hg, hs⟩ := hp.is
  refine call0 F31 (WCode.seq (WCode.region ?_))
  simp [c31, c31_r0]
  refine WCode.seq (WCode.seq (WCode.region ?_))
  simp [c31_r1]
  refine WCode.condF (by simp) (WCode.skip ?_)
  simp
  refine WCode.seq (WCode.region ?_)
  simp [c31_r3, cell1_of hg]
  refine WCode.ret ?_
  simp
  exact q

theorem room32 {h : AH} {p : Nat} {S F} {Q : AV → AH → Prop} (hp : TableAt h p S F) (hl : S.length < 100000) (q : Q (.int .i64 (S.length - many S : Nat)) h) : WCall E0 (.fn 32) [.ptr (some (p, 0))] h Q := by
  obtain ⟨v, hg, hs⟩ := hp.is
  have hm := many_le S
  refine call0 F32 (WCode.seq (WCode.region ?_))
  simp [c32, c32_r0]
  refine WCode.seq (WCode.seq (WCode.region ?_))
  simp [c32_r1]
  refine WCode.condF (by simp) (WCode.skip ?_)
  simp
  refine WCode.seq (WCode.draw ?_)
  simp [c32_r3, cell1_of hg, hs.lenV]
  refine ⟨⟨chk_mem fun hh hm => ?_, chk_mem fun hh hm => ?_⟩, ?_⟩
  · simp at hm
    subst hm
    simp [cell1_of hg]
  · simp at hm
    subst hm
    simp [cell1_of hg]
  refine WCode.ret ?_
  simp
  rw [wrap_i64 (by omega) (by omega), ← Int.ofNat_sub hm]
  exact q

theorem new14 {h : AH} {n : Int} {Q : AV → AH → Prop} (q0 : (n < 0 ∨ n > 1000) → Q (.ptr none) h)
    (q1 : ∀ m : Nat, n = m → m ≤ 1000 → ∀ h' p F, TableAt h' p (List.replicate m (0, false)) F → Keep h h' [] → h.next ≤ F → h.next ≤ p → Q (.ptr (some (p, 0))) h') :
    WCall E0 (.fn 14) [.int .i64 n] h Q := by
  refine call0 F14 (WCode.seq (WCode.region ?_))
  simp [c14, c14_r0]
  refine WCode.seq (WCode.seq (WCode.region ?_))
  by_cases h1 : n < 0
  · simp [c14_r1, h1]
    refine WCode.condT (by simp) (WCode.seq (WCode.region ?_))
    simp [c14_r2]
    refine WCode.ret ?_
    simp
    exact q0 (.inl h1)
  · by_cases h2 : n > 1000
    · have h2' : 1000 < n := h2
      simp [c14_r1, h1, h2']
      refine WCode.condT (by simp) (WCode.seq (WCode.region ?_))
      simp [c14_r2]
      refine WCode.ret ?_
      simp
      exact q0 (.inr h2)
    · have h2' : ¬ 1000 < n := h2
      simp [c14_r1, h1, h2']
      refine WCode.condF (by simp) (WCode.skip ?_)
      simp
      refine WCode.seq (WCode.region ?_)
      obtain ⟨m, rfl⟩ : ∃ m : Nat, n = m := ⟨n.toNat, by omega⟩
      have hc : copies [AV.int .i64 0, .bool false] m = (List.replicate m ((0 : Int), false)).flatMap slotC := by
        clear h1 h2 h2' q0 q1
        induction m with
        | zero => rfl
        | succ m ih => rw [List.replicate_succ, List.flatMap_cons, ← ih]; rfl
      have hr : (0 : Int) ≤ m ∧ (m : Int) ≤ m ∧ (m : Int) * (16 : Nat) ≤ room ∧ (m : Int) ≤ maxText := by simp [room, maxText]; omega
      have hs : mkSliceV h [AV.int .i64 0, .bool false] 93 2 16 (.int .i64 m) (.int .i64 m) = some (.slice (some (h.next, 0)) m m 2, h.row ((List.replicate m ((0 : Int), false)).flatMap slotC) 93 true) := by
        rw [mkSliceV_int, if_pos hr, Int.toNat_natCast, hc]
      simp [c14_r3, hs]
      refine WCode.ret ?_
      simp
      have hs1 : IsSl (h.row ((List.replicate m ((0 : Int), false)).flatMap slotC) 93 true) (.slice (some (h.next, 0)) m m 2) 93 2 slotC (List.replicate m (0, false)) h.next := by
        have := IsSl.row (es := 2) (f := slotC) (L := List.replicate m ((0 : Int), false)) h 93 (fun _ => rfl) (fun _ => rfl) rfl m (by simp) (by simp)
        simpa using this
      have k1 := Keep.row h ((List.replicate m ((0 : Int), false)).flatMap slotC) 93 true []
      have k2 := Keep.row (h.row ((List.replicate m ((0 : Int), false)).flatMap slotC) 93 true) [.slice (some (h.next, 0)) m m 2, .int .i64 0] 89 true []
      refine q1 m rfl (by omega) _ (h.next + 1) h.next ⟨by omega, _, ?_, hs1.keep k2 (by simp)⟩ (k1.trans k2 (by simp) (by simp)) (Nat.le_refl _) (by omega)
      have hm : many (List.replicate m ((0 : Int), false)) = 0 := by simp [many]
      rw [hm]
      exact get_row_new _ _ _ _ _ rfl

theorem get18 {h : AH} {p : Nat} {S F} {at_ : Int} {Q : AV → AH → Prop} (hp : TableAt h p S F) (hl : S.length < 100000)
    (q0 : (at_ < 0 ∨ S.length ≤ at_) → Q (.tuple [.int .i64 0, .bool false]) h)
    (q1 : ∀ (i : Nat) x, at_ = i → S[i]? = some x → Q (.tuple [.int .i64 x.1, .bool x.2]) h) :
    WCall E0 (.fn 18) [.ptr (some (p, 0)), .int .i64 at_] h Q := by
  obtain ⟨v, hg, hs⟩ := hp.is
  refine call0 F18 (WCode.seq (WCode.region ?_))
  simp [c18, c18_r0]
  refine WCode.seq (WCode.seq (WCode.region ?_))
  by_cases h1 : at_ < 0
  · simp [c18_r1, h1]
    refine WCode.condT (by simp) (WCode.seq (WCode.region ?_))
    simp [c18_r2]
    refine WCode.ret ?_
    simp
    exact q0 (.inl h1)
  · by_cases h2 : (S.length : Int) ≤ at_
    · simp [c18_r1, h1, h2, cell1_of hg, hs.lenV]
      refine WCode.condT (by simp) (WCode.seq (WCode.region ?_))
      simp [c18_r2]
      refine WCode.ret ?_
      simp
      exact q0 (.inr h2)
    · simp [c18_r1, h1, h2, cell1_of hg, hs.lenV]
      refine WCode.condF (by simp) (WCode.skip ?_)
      simp
      obtain ⟨i, rfl⟩ : ∃ i : Nat, at_ = i := ⟨at_.toNat, by omega⟩
      obtain ⟨x, hx⟩ : ∃ x, S[i]? = some x := ⟨S[i]'(by omega), List.getElem?_eq_getElem (by omega)⟩
      obtain ⟨b, o, hidx, hr⟩ := hs.at hx
      refine WCode.seq (WCode.draw ?_)
      have r0 := hr.cell0 hx (by omega)
      have r1 := hr.cell hx 1 (by omega)
      simp only [slotC] at r0 r1
      simp [c18_r3, cell1_of hg, hidx, r0, r1]
      refine ⟨⟨chk_mem fun hh hm => ?_, chk_mem fun hh hm => ?_, chk_mem fun hh hm => ?_, chk_mem fun hh hm => ?_⟩, ?_⟩
      · simp at hm; subst hm; simp [r1]
      · simp at hm; subst hm; simp [cell1_of hg]
      · simp at hm; subst hm; simp [r0]
      · simp at hm; subst hm; simp [cell1_of hg]
      refine WCode.ret ?_
      simp
      exact q1 i x rfl hx

theorem pred50 {h : AH} {x : Int × Bool} {Q : AV → AH → Prop} (q : ∀ h', Keep h h' [] → Q (.bool (!x.2)) h') : WCall E0 (.fn 50) [.agg (slotC x)] h Q := by
  refine call0 F50 (WCode.seq (WCode.region ?_))
  simp [c50, c50_r0, slotC]
  refine WCode.seq (WCode.region ?_)
  have c1 := cell1_of (get_row_new h [.int .i64 x.1, .bool x.2] 93 true h.next rfl) 1
  simp at c1
  simp [c50_r1, c1]
  refine WCode.ret ?_
  simp
  exact q _ (Keep.row _ _ _ _ _)

theorem index49 {h : AH} {v : AV} {S : List (Int × Bool)} {F} {Q : AV → AH → Prop} (hs : IsSl h v 93 2 slotC S F) (hl : S.length < 100000)
    (q0 : (∀ x ∈ S, x.2 = true) → ∀ h', Keep h h' [] → Q (.int .i64 (-1)) h')
    (q1 : ∀ i, S.findIdx? (fun x => !x.2) = some i → ∀ h', Keep h h' [] → Q (.int .i64 i) h') :
    WCall E0 (.fn 49) [v, .func (.func 50) [] []] h Q := by
  refine call0 F49 (WCode.seq (WCode.region ?_))
  simp [c49, c49_r0]
  refine WCode.seq (WCode.seq (WCode.region ?_))
  simp [c49_r1, hs.lenV]
  refine WCode.block (WCode.loop (Inv := fun m env h' => Keep h h' [] ∧ m ≤ S.length ∧ env.length = 19 ∧ slot env 0 = v ∧ slot env 1 = .func (.func 50) [] [] ∧ slot env 7 = .int .i64 S.length ∧ slot env 8 = .int .i64 ((S.length - m : Nat) : Int) ∧ ∀ x ∈ S.take (S.length - m), x.2 = true) ?_ S.length _ _ ⟨Keep.refl _ _, Nat.le_refl _, rfl, rfl, rfl, rfl, by simp, by simp⟩)
  rintro m env h' ⟨kk, hm, hlen, e0, e1, e7, e8, hall⟩
  refine WCode.seq (WCode.region ?_)
  simp [c49_r2, hlen, e7, e8]
  cases m with
  | zero =>
    refine WCode.seq (WCode.condF (by simp [hlen]) (WCode.exit ?_))
    simp
    refine WCode.seq (WCode.region ?_)
    simp [c49_r8, hlen]
    refine WCode.ret ?_
    simp [hlen]
    exact q0 (by simpa using hall) h' kk
  | succ m =>
    refine WCode.seq (WCode.condT (by simp [hlen]; omega) (WCode.skip ?_))
    simp
    refine WCode.seq (WCode.block (WCode.seq (WCode.region ?_)))
    simp [c49_r3, hlen, e8]
    obtain ⟨x, hx⟩ : ∃ x, S[S.length - (m + 1)]? = some x := ⟨S[S.length - (m + 1)]'(by omega), List.getElem?_eq_getElem (by omega)⟩
    obtain ⟨b, o, hidx, hr⟩ := rows_keep hs kk (by simp) hx
    refine WCode.seq (WCode.region ?_)
    simp [c49_r4, hlen, e0, e1, hidx, hr.row hx]
    refine pred50 fun h1 k1 => ?_
    have kk1 : Keep h h1 [] := kk.trans k1 (by simp) (by simp)
    try simp
    cases hx2 : x.2 with
    | false =>
      refine WCode.condT (by simp [hlen]) (WCode.seq (WCode.region ?_))
      simp [c49_r5, hlen, e8]
      refine WCode.ret ?_
      simp [hlen]
      refine q1 _ ?_ h1 kk1
      have hl' := (List.getElem?_eq_some_iff.1 hx).1
      refine List.findIdx?_eq_some_iff_getElem.2 ⟨hl', ?_, fun j hj => ?_⟩
      · have := (List.getElem?_eq_some_iff.1 hx).2
        rw [this, hx2]; rfl
      · have hj2 : j < S.length := by omega
        have hmem : S[j] ∈ S.take (S.length - (m + 1)) := List.mem_take_iff_getElem.2 ⟨j, by omega, rfl⟩
        simp [hall _ hmem]
    | true =>
      refine WCode.condF (by simp [hlen]) (WCode.skip ?_)
      simp
      refine WCode.region ?_
      simp [c49_r6, hlen, e0, e1, e7, e8]
      refine ⟨m, by omega, kk1, by omega, ?_, ?_⟩
      · rw [wrap_i64 (by omega) (by omega)]; omega
      · have : S.length - m = S.length - (m + 1) + 1 := by omega
        rw [this, List.take_add_one]
        intro a hab
        simp only [List.mem_append, hx, Option.mem_toList, Option.some.injEq] at hab
        rcases hab with hab | hab
        · exact Bool.noConfusion (hall _ hab)
        · rw [hab] at hx2; cases hx2

theorem many_set {S : List (Int × Bool)} {i : Nat} {x : Int × Bool} (hx : S[i]? = some x) (y : Int × Bool) : many (S.set i y) + (if x.2 then 1 else 0) = many S + (if y.2 then 1 else 0) := by
  induction S generalizing i with
  | nil => simp at hx
  | cons a S ih =>
    cases i with
    | zero =>
      simp only [List.getElem?_cons_zero, Option.some.injEq] at hx
      subst hx
      simp only [many, List.set_cons_zero, List.countP_cons]
      split <;> split <;> omega
    | succ i =>
      have := ih (i := i) (by simpa using hx)
      simp only [many, List.set_cons_succ, List.countP_cons] at this ⊢
      omega

theorem many_lt {S : List (Int × Bool)} {i : Nat} (h : S.findIdx? (fun x => !x.2) = some i) : ∃ x, S[i]? = some (x, false) := by
  obtain ⟨h1, h2, _⟩ := List.findIdx?_eq_some_iff_getElem.1 h
  refine ⟨S[i].1, ?_⟩
  rw [List.getElem?_eq_getElem h1]
  have : S[i].2 = false := by simpa using h2
  rw [← this]

theorem many_full {S : List (Int × Bool)} : S.length - many S = 0 ↔ S.findIdx? (fun x => !x.2) = none := by
  rw [List.findIdx?_eq_none_iff]
  constructor
  · intro h
    have h1 := many_le S
    have h2 : many S = S.length := by omega
    intro x hx
    have := (List.countP_eq_length.1 h2) x hx
    simp [this]
  · intro h
    have : many S = S.length := List.countP_eq_length.2 fun x hx => by simpa using h x hx
    omega

theorem put28 {h : AH} {p : Nat} {S F} {x : Int} {Q : AV → AH → Prop} (hp : TableAt h p S F) (hl : S.length < 100000)
    (q0 : S.findIdx? (fun x => !x.2) = none → Q (.tuple [.int .i64 0, .bool false]) h)
    (q1 : ∀ i, S.findIdx? (fun x => !x.2) = some i → ∀ h', TableAt h' p (S.set i (x, true)) F → Keep h h' [p, F] → Q (.tuple [.int .i64 i, .bool true]) h') :
    WCall E0 (.fn 28) [.ptr (some (p, 0)), .int .i64 x] h Q := by
  obtain ⟨v, hg, hs⟩ := hp.is
  refine call0 F28 (WCode.seq (WCode.region ?_))
  simp [c28, c28_r0]
  refine WCode.seq (WCode.seq (WCode.region ?_))
  simp [c28_r1]
  refine room32 hp hl ?_
  try simp
  cases hf : S.findIdx? (fun x => !x.2) with
  | none =>
    have e := many_full.2 hf
    refine WCode.condT (by simp [e]) (WCode.seq (WCode.region ?_))
    simp [c28_r2]
    refine WCode.ret ?_
    simp
    exact q0 hf
  | some i =>
    have e : S.length - many S ≠ 0 := fun e => by rw [many_full.1 e] at hf; cases hf
    refine WCode.condF (by simp; omega) (WCode.skip ?_)
    simp
    refine WCode.seq (WCode.region ?_)
    simp [c28_r3, cell1_of hg]
    obtain ⟨y, hy⟩ := many_lt hf
    have hi := (List.getElem?_eq_some_iff.1 hy).1
    refine index49 hs hl (fun hall => ?_) fun j hj h1 k1 => ?_
    · exfalso
      have := hall _ (List.mem_of_getElem? hy)
      cases this
    rw [hf] at hj
    cases hj
    have hg1 := k1.cells hg hp.lt (by simp)
    obtain ⟨b, o, h2, s1, s2, s3, s4, s5⟩ := (hs.keep k1 (by simp)).store hi (x, true)
    try simp
    refine WCode.seq (WCode.region ?_)
    simp [c28_r4, cell1_of hg1, s1]
    refine BQ.of (show storeV h1 2 (.ptr (some (b, o + i * 2))) (.agg (slotC (x, true))) = some h2 from by rw [storeV_ptr]; exact s2) ?_
    have hg2 := s4.cells hg1 (Nat.lt_of_lt_of_le hp.lt k1.next) (by simpa using fun e => hp.ne e.symm)
    have hm := many_set hy (x, true)
    have hml := many_le (S.set i (x, true))
    simp only [if_true, Bool.false_eq_true, if_false, List.length_set] at hm hml
    refine WCode.seq (WCode.region ?_)
    simp [c28_r5, cell1_of hg2]
    rw [show IntKind.i64.wrap ((many S : Int) + 1) = ((many (S.set i (x, true)) : Nat) : Int) by rw [wrap_i64 (by omega) (by omega)]; omega]
    refine BQ.of (storeV_alone (row' := [some v, some (.int .i64 (many (S.set i (x, true)) : Nat))]) hg2 rfl rfl rfl) ?_
    have k3 := Keep.set hg2 (.cells [some v, some (.int .i64 (many (S.set i (x, true)) : Nat))] 89 p 0 false false true)
    try simp
    refine WCode.seq (WCode.region ?_)
    simp [c28_r6]
    refine WCode.ret ?_
    simp
    refine q1 i hf _ ⟨hp.ne, v, AH.get_set_same (by rw [hg2]; simp) _, s3.keep k3 (by simpa using hp.ne)⟩ ((k1.trans s4 (U := [p, F]) (by simp) (by simp)).trans k3 (by simp) (by simp))

theorem put17 {h : AH} {p : Nat} {S F} {x : Int} {Q : AV → AH → Prop} (hp : TableAt h p S F) (hl : S.length < 100000)
    (q0 : S.findIdx? (fun x => !x.2) = none → Q (.int .i64 (-1)) h)
    (q1 : ∀ i, S.findIdx? (fun x => !x.2) = some i → ∀ h', TableAt h' p (S.set i (x, true)) F → Keep h h' [p, F] → Q (.int .i64 i) h') :
    WCall E0 (.fn 17) [.ptr (some (p, 0)), .int .i64 x] h Q := by
  refine call0 F17 (WCode.seq (WCode.region ?_))
  simp [c17, c17_r0]
  refine WCode.seq (WCode.region ?_)
  simp [c17_r1]
  refine put28 hp hl (fun e => ?_) fun i e h1 hp1 k1 => ?_
  · try simp
    refine WCode.seq (WCode.seq (WCode.region ?_))
    simp [c17_r2]
    refine WCode.condT (by simp) (WCode.seq (WCode.region ?_))
    simp [c17_r3]
    refine WCode.ret ?_
    simp
    exact q0 e
  · try simp
    refine WCode.seq (WCode.seq (WCode.region ?_))
    simp [c17_r2]
    refine WCode.condF (by simp) (WCode.skip ?_)
    simp
    refine WCode.seq (WCode.region ?_)
    simp [c17_r4]
    refine WCode.ret ?_
    simp
    exact q1 i e h1 hp1 k1

/-- What a slot holds, if it is taken. -/
def getS (S : List (Int × Bool)) (i : Int) : Option Int := if i < 0 then none else match S[i.toNat]? with | some (x, true) => some x | _ => none

theorem drop21 {h : AH} {p : Nat} {S F} {at_ : Int} {Q : AV → AH → Prop} (hp : TableAt h p S F) (hl : S.length < 100000)
    (q0 : getS S at_ = none → Q (.bool false) h)
    (q1 : ∀ (i : Nat) x, at_ = i → S[i]? = some (x, true) → ∀ h', TableAt h' p (S.set i (0, false)) F → Keep h h' [p, F] → Q (.bool true) h') :
    WCall E0 (.fn 21) [.ptr (some (p, 0)), .int .i64 at_] h Q := by
  refine call0 F21 (WCode.seq (WCode.region ?_))
  simp [c21, c21_r0]
  refine WCode.seq (WCode.seq (WCode.region ?_))
  simp [c21_r1]
  refine get18 hp hl (fun e => ?_) fun i x e hx => ?_
  · try simp
    refine WCode.seq (WCode.region ?_)
    simp [c21_r2]
    refine WCode.condT (by simp) (WCode.seq (WCode.region ?_))
    simp [c21_r3]
    refine WCode.ret ?_
    simp
    refine q0 ?_
    unfold getS
    rcases e with e | e
    · rw [if_pos e]
    · rw [if_neg (by omega), List.getElem?_eq_none (by omega)]
  · subst e
    try simp
    refine WCode.seq (WCode.region ?_)
    simp [c21_r2]
    obtain ⟨x1, x2⟩ := x
    cases x2 with
    | false =>
      refine WCode.condT (by simp) (WCode.seq (WCode.region ?_))
      simp [c21_r3]
      refine WCode.ret ?_
      simp
      refine q0 ?_
      unfold getS
      rw [if_neg (by omega), Int.toNat_natCast, hx]
    | true =>
      refine WCode.condF (by simp) (WCode.skip ?_)
      simp
      obtain ⟨v, hg, hs⟩ := hp.is
      have hi := (List.getElem?_eq_some_iff.1 hx).1
      obtain ⟨b, o, h2, s1, s2, s3, s4, s5⟩ := hs.store hi (0, false)
      refine WCode.seq (WCode.region ?_)
      simp [c21_r4, cell1_of hg, s1]
      refine BQ.of (show storeV h 2 (.ptr (some (b, o + i * 2))) (.agg (slotC (0, false))) = some h2 from by rw [storeV_ptr]; exact s2) ?_
      have hg2 := s4.cells hg hp.lt (by simpa using fun e => hp.ne e.symm)
      have hm := many_set hx (0, false)
      have hml := many_le S
      simp only [if_true, Bool.false_eq_true, if_false, List.length_set] at hm hml
      try simp
      refine WCode.seq (WCode.region ?_)
      simp [c21_r5, cell1_of hg2]
      rw [show IntKind.i64.wrap ((many S : Int) - 1) = ((many (S.set i (0, false)) : Nat) : Int) by rw [wrap_i64 (by omega) (by omega)]; omega]
      refine BQ.of (storeV_alone (row' := [some v, some (.int .i64 (many (S.set i (0, false)) : Nat))]) hg2 rfl rfl rfl) ?_
      have k3 := Keep.set hg2 (.cells [some v, some (.int .i64 (many (S.set i (0, false)) : Nat))] 89 p 0 false false true)
      try simp
      refine WCode.seq (WCode.region ?_)
      simp [c21_r6]
      refine WCode.ret ?_
      simp
      exact q1 i x1 rfl hx _ ⟨hp.ne, v, AH.get_set_same (by rw [hg2]; simp) _, s3.keep k3 (by simpa using hp.ne)⟩ (s4.trans k3 (U := [p, F]) (by simp) (by simp))

theorem lives15 {h : AH} {Q : AV → AH → Prop} (q : ∀ h', Keep h h' [] → Q (.bool true) h') : WCall E0 (.fn 15) [] h Q := by
  refine call0 F15 (WCode.seq (WCode.region ?_))
  simp [c15, c15_r0]
  refine WCode.seq (WCode.region ?_)
  simp [c15_r1]
  refine new14 (fun e => by omega) fun m e hm h1 p F hp k1 hF hpn => ?_
  obtain rfl : m = 2 := by omega
  try simp
  refine WCode.seq (WCode.region ?_)
  simp [c15_r2]
  have hw : ∀ h2, Keep h1 h2 [p, F] → Keep h h2 [] := fun h2 k => k1.trans k (by simp) (by simp; omega)
  refine put28 hp (by simp) (fun e => by exfalso; revert e; decide) fun i e h2 hp2 k2 => ?_
  obtain rfl : i = 0 := by
    have : (List.replicate 2 ((0 : Int), false)).findIdx? (fun x => !x.2) = some 0 := by decide
    rw [this] at e; cases e; rfl
  try simp
  refine WCode.seq (WCode.region ?_)
  simp [c15_r3]
  refine put28 hp2 (by simp) (fun e => by exfalso; revert e; decide) fun i e h3 hp3 k3 => ?_
  obtain rfl : i = 1 := by
    have : ((List.replicate 2 ((0 : Int), false)).set 0 (7, true)).findIdx? (fun x => !x.2) = some 1 := by decide
    rw [this] at e; cases e; rfl
  try simp
  refine WCode.seq (WCode.region ?_)
  simp [c15_r4]
  refine drop21 hp3 (by simp) (fun e => by exfalso; revert e; decide) fun i x e hx h4 hp4 k4 => ?_
  obtain rfl : i = 0 := by omega
  try simp
  refine put17 hp4 (by simp) (fun e => by exfalso; revert e; decide) fun i e h5 hp5 k5 => ?_
  obtain rfl : i = 0 := by
    have : ((((List.replicate 2 ((0 : Int), false)).set 0 (7, true)).set 1 (8, true)).set 0 (0, false)).findIdx? (fun x => !x.2) = some 0 := by decide
    rw [this] at e; cases e; rfl
  try simp
  have full : (((((List.replicate 2 ((0 : Int), false)).set 0 (7, true)).set 1 (8, true)).set 0 (0, false)).set 0 (9, true)).findIdx? (fun x => !x.2) = none := by decide
  refine put17 hp5 (by simp) (fun e => ?_) fun i e h6 hp6 k6 => (by exfalso; rw [full] at e; cases e)
  try simp
  refine new14 (fun _ => ?_) fun m e => by omega
  simp
  refine WCode.ret ?_
  simp
  exact q _ (hw _ (((k2.trans k3 (U := [p, F]) (by simp) (by simp)).trans k4 (U := [p, F]) (by simp) (by simp)).trans k5 (by simp) (by simp)))
end Go.Proofs.Ytkbekibljcdbjaa.Ax
