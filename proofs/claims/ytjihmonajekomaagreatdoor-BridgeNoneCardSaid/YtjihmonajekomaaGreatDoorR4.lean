/- What config.Right calls: each returns, with a value of its kind. Conditions: as each theorem states.
   host.Key and octet.Token: each returns. Conditions: as each theorem states.
   host.Key and config.Right: each returns. Conditions: as each theorem states.
   digits.Text, host.Key: each returns. Conditions: as each theorem states. -/
import Derived.Test.YtjihmonajekomaaGreatDoorC1
import Derived.Test.YtjihmonajekomaaGreatDoorC2
import Derived.Test.YtjihmonajekomaaGreatDoorC3
import Derived.Test.YtjihmonajekomaaGreatDoorB2
import Derived.Test.YtjihmonajekomaaGreatDoorAx31
namespace Go.Proofs.YtjihmonajekomaaGreatDoor.Ax
open Go
set_option linter.unusedVariables false
set_option linter.unusedSimpArgs false
noncomputable abbrev E2 : Pg := ⟨funcsOf Tryz.prog [], libS, noMt⟩
def plainF (f : FuncId) : Bool := f != 236 && f != 154 && f != 364 && f != 156 && f != 441
theorem libS_none {f : FuncId} (h : plainF f = true) : libS f = none := by
  simp [plainF] at h
  simp [libS, extS, h]
set_option maxRecDepth 20000 in
theorem call2 {f : FuncId} {fn : AFn} {args : List AV} {h : AH} {Q : AV → AH → Prop} (hF : funcsOf Tryz.prog [] f = some fn) (hf : plainF f = true) (hw : WCode E2 false fn.body (args ++ List.replicate (fn.ntmps - args.length) .undef) h (BodyQ fn.results Q)) : WCall E2 (.fn f) args h Q :=
  WCall.fn (E := E2) (libS_none hf) hF hw
theorem xt441 {s : List Nat} {c : Int} {h : AH} {Q : AV → AH → Prop} (q : Q (.int .i64 (idxE (c.toNat % 256) s 0)) h) : WCall E2 (.fn 441) [.str s, .int .u8 c] h Q :=
  WCall.sum (E := E2) (h' := h) (v := .int .i64 (idxE (c.toNat % 256) s 0)) (show libS 441 = some _ from rfl) rfl q

variable {h : AH} {Q : AV → AH → Prop}

theorem idx351 {s : List Nat} {c : Int} (q : ∀ i, Q (.int .i64 i) h) : WCall E2 (.fn 351) [.str s, .int .u8 c] h Q := by
  refine call2 F351 rfl (WCode.seq (WCode.region ?_))
  simp [c351, c351_r0]
  refine WCode.seq (WCode.region ?_)
  simp [c351_r1]
  refine xt441 ?_
  simp
  refine WCode.ret ?_
  simp
  exact q _
theorem idx322 {s : List Nat} {c : Int} (q : ∀ i, Q (.int .i64 i) h) : WCall E2 (.fn 322) [.str s, .int .u8 c] h Q := by
  refine call2 F322 rfl (WCode.seq (WCode.region ?_))
  simp [c322, c322_r0]
  refine WCode.seq (WCode.region ?_)
  simp [c322_r1]
  refine idx351 fun i => ?_
  simp
  refine WCode.ret ?_
  simp
  exact q _

theorem hex323 {r : Int} (q : ∀ b, Q (.bool b) h) : WCall E2 (.fn 323) [.int .i32 r] h Q := by
  refine call2 F323 rfl (WCode.seq (WCode.region ?_))
  simp [c323, c323_r0]
  refine WCode.seq (WCode.region ?_)
  by_cases h1 : 48 ≤ r <;> by_cases h2 : r ≤ 57 <;> by_cases h3 : 97 ≤ r <;> by_cases h4 : r ≤ 102 <;> by_cases h5 : 65 ≤ r <;> by_cases h6 : r ≤ 70 <;> simp [c323_r1, h1, h2, h3, h4, h5, h6]
  all_goals (refine WCode.ret ?_; simp; exact q _)

set_option maxHeartbeats 4000000 in
theorem plain324 {r : Int} (q : ∀ b, Q (.bool b) h) : WCall E2 (.fn 324) [.int .i32 r] h Q := by
  refine call2 F324 rfl (WCode.seq (WCode.region ?_))
  simp [c324, c324_r0]
  refine WCode.seq (WCode.region ?_)
  by_cases h1 : 97 ≤ r <;> by_cases h2 : r ≤ 122 <;> by_cases h3 : 65 ≤ r <;> by_cases h4 : r ≤ 90 <;> by_cases h5 : 48 ≤ r <;> by_cases h6 : r ≤ 57 <;> simp [c324_r1, h1, h2, h3, h4, h5, h6]
  all_goals first
    | (refine WCode.ret ?_; simp; exact q _)
    | (refine idx322 fun i => ?_
       by_cases h7 : 0 ≤ i <;> by_cases h8 : r < 128 <;> simp [h7, h8] <;> (refine WCode.ret ?_; simp; exact q _))

theorem digit432 {r : Int} (q : ∀ n, Q (.int .i64 n) h) : WCall E2 (.fn 432) [.int .i32 r] h Q := by
  refine call2 F432 rfl (WCode.seq (WCode.region ?_))
  simp [c432, c432_r0]
  refine WCode.seq (WCode.block (WCode.seq (WCode.region ?_)))
  by_cases h1 : 48 ≤ r ∧ r ≤ 57
  · simp [c432_r1, h1]
    refine WCode.condT (by simp) (WCode.seq (WCode.region ?_))
    simp [c432_r2]
    refine WCode.ret ?_
    simp
    exact q _
  · have e1 : WCode E2 false (.seq (.region c432_r3 false) (.cond (.tmp 13) (.seq (.region c432_r4 false) .ret) (.seq (.region c432_r5 false) (.cond (.tmp 24) (.seq (.region c432_r6 false) .ret) .skip)))) = WCode E2 false (.seq (.region c432_r3 false) (.cond (.tmp 13) (.seq (.region c432_r4 false) .ret) (.seq (.region c432_r5 false) (.cond (.tmp 24) (.seq (.region c432_r6 false) .ret) .skip)))) := rfl
    have rest : ∀ env : List AV, env.length = 35 → slot env 0 = .int .i32 r → WCode E2 false (.seq (.region c432_r3 false) (.cond (.tmp 13) (.seq (.region c432_r4 false) .ret) (.seq (.region c432_r5 false) (.cond (.tmp 24) (.seq (.region c432_r6 false) .ret) .skip)))) env h (BlockQ 0 (SeqQ (WCode E2 false) (.seq (.region c432_r7 false) .ret) (BodyQ [(2, none)] Q))) := by
      intro env el e0
      refine WCode.seq (WCode.region ?_)
      by_cases h2 : 97 ≤ r <;> by_cases h3 : r ≤ 102 <;> simp [c432_r3, el, e0, h2, h3]
      case pos =>
        refine WCode.condT (by simp [el]) (WCode.seq (WCode.region ?_))
        simp [c432_r4, el, e0]
        refine WCode.ret ?_
        simp [el]
        exact q _
      all_goals
        refine WCode.condF (by simp [el]) (WCode.seq (WCode.region ?_))
        by_cases h4 : 65 ≤ r <;> by_cases h5 : r ≤ 70 <;> simp [c432_r5, el, e0, h4, h5]
        case pos =>
          refine WCode.condT (by simp [el]) (WCode.seq (WCode.region ?_))
          simp [c432_r6, el, e0]
          refine WCode.ret ?_
          simp [el]
          exact q _
        all_goals
          refine WCode.condF (by simp [el]) (WCode.skip ?_)
          simp
          refine WCode.seq (WCode.region ?_)
          simp [c432_r7, el]
          refine WCode.ret ?_
          simp [el]
          exact q _
    by_cases h2 : 48 ≤ r
    · have h3 : ¬ r ≤ 57 := fun h => h1 ⟨h2, h⟩
      simp [c432_r1, h2, h3]
      refine WCode.condF (by simp) (rest _ rfl rfl)
    · simp [c432_r1, h2]
      refine WCode.condF (by simp) (rest _ rfl rfl)

theorem pre418 {s p : List Nat} (hs : s.length < 100000) (q : ∀ b, (b = true → p.length ≤ s.length) → Q (.bool b) h) : WCall E2 (.fn 418) [.str s, .str p] h Q := by
  refine call2 F418 rfl (WCode.seq (WCode.region ?_))
  simp [c418, c418_r0]
  refine WCode.seq (WCode.region ?_)
  by_cases h1 : p.length ≤ s.length
  · have h1' : (p.length : Int) ≤ s.length := by omega
    have eb : bounds s.length s.length none (some (.int .i64 p.length)) none = some (0, p.length, s.length) := bounds_eq (.inl ⟨rfl, rfl⟩) (.inr ⟨.i64, rfl⟩) (by omega) (by omega)
    simp [c418_r1, h1, h1', eb]
    refine WCode.ret ?_
    simp
    exact q _ fun _ => h1
  · have h1' : ¬ (p.length : Int) ≤ s.length := by omega
    simp [c418_r1, h1, h1']
    refine WCode.ret ?_
    simp
    exact q _ (by simp)

theorem suf487 {s p : List Nat} (hs : s.length < 100000) (q : ∀ b, (b = true → p.length ≤ s.length) → Q (.bool b) h) : WCall E2 (.fn 487) [.str s, .str p] h Q := by
  refine call2 F487 rfl (WCode.seq (WCode.region ?_))
  simp [c487, c487_r0]
  refine WCode.seq (WCode.region ?_)
  by_cases h1 : p.length ≤ s.length
  · have h1' : (p.length : Int) ≤ s.length := by omega
    have hw : IntKind.i64.wrap ((s.length : Int) - p.length) = ((s.length - p.length : Nat) : Int) := by rw [wrap_i64 (by omega) (by omega)]; omega
    have eb : bounds s.length s.length (some (.int .i64 ((s.length - p.length : Nat) : Int))) none none = some (s.length - p.length, s.length, s.length) := bounds_eq (.inr ⟨.i64, rfl⟩) (.inl ⟨rfl, rfl⟩) (by omega) (by omega)
    simp [c487_r1, h1, h1', hw, eb]
    refine WCode.ret ?_
    simp
    exact q _ fun _ => h1
  · have h1' : ¬ (p.length : Int) ≤ s.length := by omega
    simp [c487_r1, h1, h1']
    refine WCode.ret ?_
    simp
    exact q _ (by simp)

theorem cutp325 {s p : List Nat} (hs : s.length < 100000) (q : ∀ (t : List Nat) b, t.length ≤ s.length → Q (.tuple [.str t, .bool b]) h) : WCall E2 (.fn 325) [.str s, .str p] h Q := by
  refine call2 F325 rfl (WCode.seq (WCode.region ?_))
  simp [c325, c325_r0]
  refine WCode.seq (WCode.region ?_)
  simp [c325_r1]
  refine call2 F430 rfl (WCode.seq (WCode.region ?_))
  simp [c430, c430_r0]
  refine WCode.seq (WCode.seq (WCode.region ?_))
  simp [c430_r1]
  refine pre418 hs fun b hb => ?_
  simp
  cases b with
  | false =>
    refine WCode.condT (by simp) (WCode.seq (WCode.region ?_))
    simp [c430_r2]
    refine WCode.ret ?_
    simp
    refine WCode.ret ?_
    simp
    exact q _ _ (Nat.le_refl _)
  | true =>
    have h1 := hb rfl
    refine WCode.condF (by simp) (WCode.skip ?_)
    simp
    refine WCode.seq (WCode.region ?_)
    have eb : bounds s.length s.length (some (.int .i64 p.length)) none none = some (p.length, s.length, s.length) := bounds_eq (.inr ⟨.i64, rfl⟩) (.inl ⟨rfl, rfl⟩) (by omega) (by omega)
    simp [c430_r3, eb]
    refine WCode.ret ?_
    simp
    refine WCode.ret ?_
    simp
    exact q _ _ (by simp)

theorem cuts326 {s p : List Nat} (hs : s.length < 100000) (q : ∀ (t : List Nat) b, t.length ≤ s.length → Q (.tuple [.str t, .bool b]) h) : WCall E2 (.fn 326) [.str s, .str p] h Q := by
  refine call2 F326 rfl (WCode.seq (WCode.region ?_))
  simp [c326, c326_r0]
  refine WCode.seq (WCode.region ?_)
  simp [c326_r1]
  refine call2 F431 rfl (WCode.seq (WCode.region ?_))
  simp [c431, c431_r0]
  refine WCode.seq (WCode.seq (WCode.region ?_))
  simp [c431_r1]
  refine suf487 hs fun b hb => ?_
  simp
  cases b with
  | false =>
    refine WCode.condT (by simp) (WCode.seq (WCode.region ?_))
    simp [c431_r2]
    refine WCode.ret ?_
    simp
    refine WCode.ret ?_
    simp
    exact q _ _ (Nat.le_refl _)
  | true =>
    have h1 := hb rfl
    refine WCode.condF (by simp) (WCode.skip ?_)
    simp
    refine WCode.seq (WCode.region ?_)
    have hw : IntKind.i64.wrap ((s.length : Int) - p.length) = ((s.length - p.length : Nat) : Int) := by rw [wrap_i64 (by omega) (by omega)]; omega
    have eb : bounds s.length s.length none (some (.int .i64 ((s.length - p.length : Nat) : Int))) none = some (0, s.length - p.length, s.length) := bounds_eq (.inl ⟨rfl, rfl⟩) (.inr ⟨.i64, rfl⟩) (by omega) (by omega)
    simp [c431_r3, hw, eb]
    refine WCode.ret ?_
    simp
    refine WCode.ret ?_
    simp
    exact q _ _ (by simp)

theorem last321 {s : List Nat} {c : Int} (hs : s.length < 100000) (q : ∀ i : Int, -1 ≤ i → i < s.length → Q (.int .i64 i) h) : WCall E2 (.fn 321) [.str s, .int .u8 c] h Q := by
  refine call2 F321 rfl (WCode.seq (WCode.region ?_))
  simp [c321, c321_r0]
  refine WCode.seq (WCode.region ?_)
  simp [c321_r1]
  refine call2 F429 rfl (WCode.seq (WCode.region ?_))
  simp [c429, c429_r0]
  refine WCode.seq (WCode.seq (WCode.region ?_))
  simp [c429_r1]
  rw [wrap_i64 (by omega) (by omega)]
  have q' : ∀ i : Int, -1 ≤ i → i < s.length → Q (.int .i64 i) h := q
  refine WCode.block (WCode.loop (Inv := fun m env h' => h' = h ∧ m ≤ s.length ∧ env.length = 19 ∧ slot env 0 = .str s ∧ slot env 1 = .int .u8 c ∧ slot env 5 = .int .i64 ((m : Int) - 1)) ?_ s.length _ _ ⟨rfl, Nat.le_refl _, rfl, rfl, rfl, by simp [slot_zero, slot_succ]⟩)
  rintro m env h' ⟨rfl, hm, el, e0, e1, e5⟩
  refine WCode.seq (WCode.seq (WCode.region ?_))
  cases m with
  | zero =>
    simp [c429_r2, el, e5]
    refine WCode.condF (by simp [el]) (WCode.exit ?_)
    simp
    refine WCode.seq (WCode.region ?_)
    simp [c429_r7, el]
    refine WCode.ret ?_
    simp [el]
    refine WCode.ret ?_
    simp
    exact q _ (by omega) (by omega)
  | succ m =>
    have e5' : slot env 5 = .int .i64 (m : Int) := by rw [e5]; congr 1; omega
    have hlt : m < s.length := by omega
    simp [c429_r2, el, e5']
    refine WCode.condT (by simp [el]) (WCode.skip ?_)
    simp
    refine WCode.seq (WCode.block (WCode.seq (WCode.region ?_)))
    simp [c429_r3, el, e0, e1, e5', List.getElem?_eq_getElem hlt, byteAV]
    by_cases hc : (s[m] : Int) = c
    · refine WCode.condT (by simp [el, hc]) (WCode.seq (WCode.region ?_))
      simp [c429_r4, el, e5']
      refine WCode.ret ?_
      simp [el]
      refine WCode.ret ?_
      simp
      exact q _ (by omega) (by omega)
    · refine WCode.condF (by simp [el, hc]) (WCode.skip ?_)
      simp
      refine WCode.region ?_
      simp [c429_r5, el, e5']
      refine ⟨m, by omega, by omega, e0, e1, ?_⟩
      rw [wrap_i64 (by omega) (by omega)]
end Go.Proofs.YtjihmonajekomaaGreatDoor.Ax

namespace Go.Proofs.YtjihmonajekomaaGreatDoor.Ax
open Go
set_option linter.unusedVariables false
set_option linter.unusedSimpArgs false
variable {h : AH} {Q : AV → AH → Prop}

theorem cut229 {s : List Nat} (hs : s.length < 100000) (q : ∀ (a b : List Nat) ok, a.length ≤ s.length → b.length ≤ s.length → Q (.tuple [.str a, .str b, .bool ok]) h) : WCall E2 (.fn 229) [.str s] h Q := by
  refine call2 F229 rfl (WCode.seq (WCode.region ?_))
  simp [c229, c229_r0]
  refine WCode.seq (WCode.region ?_)
  simp [c229_r1]
  refine last321 hs fun i i1 i2 => ?_
  simp
  refine WCode.seq (WCode.seq (WCode.region ?_))
  simp [c229_r2]
  refine idx322 fun j => ?_
  by_cases h1 : i < j ∨ i < 0
  · by_cases h2 : i < j
    · simp [h2]
      refine WCode.condT (by simp) (WCode.seq (WCode.region ?_))
      simp [c229_r3]
      refine WCode.ret ?_
      simp
      exact q _ _ _ (Nat.le_refl _) (by simp)
    · have h3 : i < 0 := by omega
      simp [h2, h3]
      refine WCode.condT (by simp) (WCode.seq (WCode.region ?_))
      simp [c229_r3]
      refine WCode.ret ?_
      simp
      exact q _ _ _ (Nat.le_refl _) (by simp)
  · have h2 : ¬ i < j := fun x => h1 (.inl x)
    have h3 : ¬ i < 0 := fun x => h1 (.inr x)
    simp [h2, h3]
    refine WCode.condF (by simp) (WCode.skip ?_)
    simp
    obtain ⟨n, rfl⟩ : ∃ n : Nat, i = n := ⟨i.toNat, by omega⟩
    refine WCode.seq (WCode.draw ?_)
    have hw : IntKind.i64.wrap ((n : Int) + 1) = (n : Int) + 1 := wrap_i64 (by omega) (by omega)
    have eb1 : bounds s.length s.length none (some (.int .i64 (n : Int))) none = some (0, n, s.length) := bounds_eq (.inl ⟨rfl, rfl⟩) (.inr ⟨.i64, rfl⟩) (by omega) (by omega)
    have eb2 : bounds s.length s.length (some (.int .i64 ((n : Int) + 1))) none none = some (n + 1, s.length, s.length) := by
      rw [show ((n : Int) + 1) = ((n + 1 : Nat) : Int) from rfl]
      exact bounds_eq (.inr ⟨.i64, rfl⟩) (.inl ⟨rfl, rfl⟩) (by omega) (by omega)
    simp [c229_r4, hw, eb1, eb2]
    refine WCode.ret ?_
    simp
    exact q _ _ _ (by simp; omega) (by simp)

theorem reg230 {s : List Nat} (q : ∀ b h', Keep h h' [] → Q (.bool b) h') : WCall E2 (.fn 230) [.str s] h Q := by
  refine call2 F230 rfl (WCode.seq (WCode.region ?_))
  simp [c230, c230_r0]
  refine WCode.seq (WCode.region ?_)
  simp [c230_r1]
  refine WCode.seq (WCode.seq (WCode.region ?_))
  simp [c230_r2]
  have k0 := Keep.push h (.strIter s 0) []
  have g0 := get_push_new h (.strIter s 0) h.next rfl
  generalize (h.push (.strIter s 0)) = h0 at *
  refine WCode.block (WCode.loop (Inv := fun m env h' => env.length = 36 ∧ Keep h h' [] ∧ slot env 0 = .str s ∧ slot env 7 = .ptr (some (h.next, 0)) ∧ (∃ n, slot env 3 = .int .i64 n) ∧ ∃ pos, h'.get h.next = .strIter s pos ∧ s.length - pos = m) ?_ s.length _ _ ⟨rfl, k0, rfl, rfl, ⟨0, rfl⟩, 0, g0, rfl⟩)
  rintro m env h1 ⟨el, k1, e0, e7, ⟨n, e3⟩, pos, g1, hm⟩
  refine WCode.seq (WCode.region ?_)
  rcases nextStr_any g1 with ⟨hp, en⟩ | ⟨hp, c, w, hw, en⟩
  · simp [c230_r3, el, e7, en]
    refine WCode.seq (WCode.condF (by simp [el]) (WCode.exit ?_))
    simp
    refine WCode.seq (WCode.region ?_)
    by_cases h1 : s = []
    · simp [c230_r14, el, e0, e3, h1]
      refine WCode.ret ?_
      simp [el]
      exact q _ _ k1
    · have h1' : s.isEmpty = false := by simpa using h1
      simp [c230_r14, el, e0, e3, h1, h1']
      refine WCode.ret ?_
      simp [el]
      exact q _ _ k1
  · have o1 := Own.iter g1
    have k2 := Keep.setAt o1 (.strIter s (pos + w))
    have g2 := AH.get_set_same (i := h.next) o1.1 (.strIter s (pos + w))
    simp [c230_r3, el, e7, en]
    refine WCode.seq (WCode.condT (by simp [el]) (WCode.skip ?_))
    simp
    have k12 : Keep h (h1.set h.next (.strIter s (pos + w))) [] := k1.trans k2 (by simp) (by simp)
    generalize (h1.set h.next (.strIter s (pos + w))) = h2 at *
    refine WCode.block (WCode.seq (WCode.region ?_))
    simp [c230_r4, el]
    refine WCode.block (WCode.seq (WCode.region ?_))
    by_cases hn : 0 < n
    · simp [c230_r5, el, e3, hn]
      refine hex323 fun b => ?_
      cases b with
      | true =>
        simp [el]
        refine WCode.condT (by simp [el]) (WCode.region ?_)
        simp [c230_r6, el, e3]
        exact ⟨s.length - (pos + w), by omega, k12, e0, e7, _, g2, rfl⟩
      | false =>
        simp [el]
        refine WCode.condF (by simp [el]) (WCode.seq (WCode.region ?_))
        simp [c230_r7, el, e3, hn]
        refine WCode.condT (by simp [el]) (WCode.seq (WCode.region ?_))
        simp [c230_r8, el]
        refine WCode.ret ?_
        simp [el]
        exact q _ _ k12
    · simp [c230_r5, el, e3, hn]
      refine WCode.condF (by simp [el]) (WCode.seq (WCode.region ?_))
      simp [c230_r7, el, e3, hn]
      refine WCode.condF (by simp [el]) (WCode.seq (WCode.region ?_))
      by_cases hc : (c : Int) = 37
      · simp [c230_r9, el, hc]
        refine WCode.condT (by simp [el]) (WCode.region ?_)
        simp [c230_r10, el]
        exact ⟨s.length - (pos + w), by omega, k12, e0, e7, _, g2, rfl⟩
      · simp [c230_r9, el, hc]
        refine WCode.condF (by simp [el, hc]) (WCode.seq (WCode.region ?_))
        simp [c230_r11, el]
        refine plain324 fun b => ?_
        cases b with
        | true =>
          simp [el]
          refine WCode.condF (by simp [el]) (WCode.skip ?_)
          simp [el, e3]
          exact ⟨s.length - (pos + w), by omega, k12, e0, e7, _, g2, rfl⟩
        | false =>
          simp [el]
          refine WCode.condT (by simp [el]) (WCode.seq (WCode.region ?_))
          simp [c230_r12, el]
          refine WCode.ret ?_
          simp [el]
          exact q _ _ k12

theorem tchar126 {r : Int} (q : ∀ b h', Keep h h' [] → Q (.bool b) h') : WCall E2 (.fn 126) [.int .i32 r] h Q := by
  refine call2 F126 rfl (WCode.seq (WCode.region ?_))
  simp [c126, c126_r0]
  refine WCode.seq (WCode.block ?_)
  -- behind the three tests
  have loop : ∀ env : List AV, env.length = 31 → slot env 0 = .int .i32 r → WCode E2 false (.seq (.seq (.region c126_r5 false) (.block 1 (.loop c126_l10))) (.seq (.region c126_r11 false) .ret)) env h (BodyQ [(2, none)] Q) := by
    intro env0 el0 e00
    refine WCode.seq (WCode.seq (WCode.region ?_))
    simp [c126_r5, el0]
    have k0 := Keep.push h (.strIter [33, 35, 36, 37, 38, 39, 42, 43, 45, 46, 94, 95, 96, 124, 126] 0) []
    have g0 := get_push_new h (.strIter [33, 35, 36, 37, 38, 39, 42, 43, 45, 46, 94, 95, 96, 124, 126] 0) h.next rfl
    generalize (h.push (.strIter [33, 35, 36, 37, 38, 39, 42, 43, 45, 46, 94, 95, 96, 124, 126] 0)) = h0 at *
    generalize ([33, 35, 36, 37, 38, 39, 42, 43, 45, 46, 94, 95, 96, 124, 126] : List Nat) = s at *
    refine WCode.block (WCode.loop (Inv := fun m env h' => env.length = 31 ∧ Keep h h' [] ∧ slot env 0 = .int .i32 r ∧ slot env 24 = .ptr (some (h.next, 0)) ∧ ∃ pos, h'.get h.next = .strIter s pos ∧ s.length - pos = m) ?_ s.length _ _ ⟨by simp [el0], k0, by simp [el0, e00], by simp [el0], 0, g0, rfl⟩)
    rintro m env h1 ⟨el, k1, e0, e24, pos, g1, hm⟩
    refine WCode.seq (WCode.region ?_)
    rcases nextStr_any g1 with ⟨hp, en⟩ | ⟨hp, c, w, hw, en⟩
    · simp [c126_r6, el, e24, en]
      refine WCode.seq (WCode.condF (by simp [el]) (WCode.exit ?_))
      simp
      refine WCode.seq (WCode.region ?_)
      simp [c126_r11, el]
      refine WCode.ret ?_
      simp [el]
      exact q _ _ k1
    · have o1 := Own.iter g1
      have k2 := Keep.setAt o1 (.strIter s (pos + w))
      have g2 := AH.get_set_same (i := h.next) o1.1 (.strIter s (pos + w))
      simp [c126_r6, el, e24, en]
      refine WCode.seq (WCode.condT (by simp [el]) (WCode.skip ?_))
      simp
      have k12 : Keep h (h1.set h.next (.strIter s (pos + w))) [] := k1.trans k2 (by simp) (by simp)
      generalize (h1.set h.next (.strIter s (pos + w))) = h2 at *
      refine WCode.block (WCode.seq (WCode.region ?_))
      simp [c126_r7, el]
      refine WCode.seq (WCode.region ?_)
      by_cases hc : (c : Int) = r
      · simp [c126_r8, el, e0, hc]
        refine WCode.condT (by simp [el]) (WCode.seq (WCode.region ?_))
        simp [c126_r9, el]
        refine WCode.ret ?_
        simp [el]
        exact q _ _ k12
      · simp [c126_r8, el, e0, hc]
        refine WCode.condF (by simp [el, hc]) (WCode.skip ?_)
        simp [el]
        exact ⟨s.length - (pos + w), by omega, k12, e0, e24, _, g2, rfl⟩
  have yes : ∀ env : List AV, env.length = 31 → slot env 5 = .bool true → WCode E2 false (.cond (.tmp 5) (.seq (.region c126_r4 false) .ret) .skip) env h (BlockQ 0 (SeqQ (WCode E2 false) (.seq (.seq (.region c126_r5 false) (.block 1 (.loop c126_l10))) (.seq (.region c126_r11 false) .ret)) (BodyQ [(2, none)] Q))) := by
    intro env el e5
    refine WCode.condT (by simp [e5]) (WCode.seq (WCode.region ?_))
    simp [c126_r4, el]
    refine WCode.ret ?_
    simp [el]
    exact q _ _ (Keep.refl _ _)
  have no : ∀ env : List AV, env.length = 31 → slot env 5 = .bool false → slot env 0 = .int .i32 r → WCode E2 false (.cond (.tmp 5) (.seq (.region c126_r4 false) .ret) .skip) env h (BlockQ 0 (SeqQ (WCode E2 false) (.seq (.seq (.region c126_r5 false) (.block 1 (.loop c126_l10))) (.seq (.region c126_r11 false) .ret)) (BodyQ [(2, none)] Q))) := by
    intro env el e5 e0
    refine WCode.condF (by simp [e5]) (WCode.skip ?_)
    simp
    exact loop _ el e0
  refine WCode.seq (WCode.seq (WCode.region ?_))
  by_cases a1 : 97 ≤ r <;> by_cases a2 : r ≤ 122 <;> simp [c126_r1, a1, a2]
  case pos =>
    refine WCode.condT (by simp) (WCode.skip ?_)
    simp
    exact yes _ rfl rfl
  all_goals
    refine WCode.condF (by simp) (WCode.seq (WCode.region ?_))
    by_cases b1 : 65 ≤ r <;> by_cases b2 : r ≤ 90 <;> simp [c126_r2, b1, b2]
    case pos =>
      refine WCode.condT (by simp) (WCode.skip ?_)
      simp
      exact yes _ rfl rfl
    all_goals
      refine WCode.condF (by simp) (WCode.region ?_)
      by_cases d1 : 48 ≤ r <;> by_cases d2 : r ≤ 57 <;> simp [c126_r3, d1, d2]
      case pos => exact yes _ rfl rfl
      all_goals exact no _ rfl rfl rfl

theorem token54 {s : List Nat} (q : ∀ b h', Keep h h' [] → Q (.bool b) h') : WCall E2 (.fn 54) [.str s] h Q := by
  refine call2 F54 rfl (WCode.seq (WCode.region ?_))
  simp [c54, c54_r0]
  refine WCode.seq (WCode.region ?_)
  by_cases hs : s = []
  · simp [c54_r1, hs]
    refine WCode.ret ?_
    simp
    exact q _ _ (Keep.refl _ _)
  · have hs' : (s == []) = false := by simpa using hs
    simp [c54_r1, hs, hs']
    refine call2 F125 rfl (WCode.seq (WCode.region ?_))
    simp [c125, c125_r0]
    refine WCode.seq (WCode.seq (WCode.region ?_))
    simp [c125_r1]
    have k0 := Keep.push h (.strIter s 0) []
    have g0 := get_push_new h (.strIter s 0) h.next rfl
    generalize (h.push (.strIter s 0)) = h0 at *
    refine WCode.block (WCode.loop (Inv := fun m env h' => env.length = 16 ∧ Keep h h' [] ∧ h.next < h'.next ∧ slot env 1 = .func (.func 126) [] [] ∧ slot env 8 = .ptr (some (h.next, 0)) ∧ ∃ pos, h'.get h.next = .strIter s pos ∧ s.length - pos = m) ?_ s.length _ _ ⟨rfl, k0, (Own.iter g0).lt, rfl, rfl, 0, g0, rfl⟩)
    rintro m env h1 ⟨el, k1, lt1, e1, e8, pos, g1, hm⟩
    refine WCode.seq (WCode.region ?_)
    rcases nextStr_any g1 with ⟨hp, en⟩ | ⟨hp, c, w, hw, en⟩
    · simp [c125_r2, el, e8, en]
      refine WCode.seq (WCode.condF (by simp [el]) (WCode.exit ?_))
      simp
      refine WCode.seq (WCode.region ?_)
      simp [c125_r7, el]
      refine WCode.ret ?_
      simp [el]
      refine WCode.ret ?_
      simp
      exact q _ _ k1
    · have o1 := Own.iter g1
      have k2 := Keep.setAt o1 (.strIter s (pos + w))
      have g2 := AH.get_set_same (i := h.next) o1.1 (.strIter s (pos + w))
      simp [c125_r2, el, e8, en]
      refine WCode.seq (WCode.condT (by simp [el]) (WCode.skip ?_))
      simp
      have k12 : Keep h (h1.set h.next (.strIter s (pos + w))) [] := k1.trans k2 (by simp) (by simp)
      generalize (h1.set h.next (.strIter s (pos + w))) = h2 at *
      refine WCode.block (WCode.seq (WCode.region ?_))
      simp [c125_r3, el]
      refine WCode.seq (WCode.region ?_)
      simp [c125_r4, el, e1]
      refine tchar126 fun b h3 k3 => ?_
      have k13 : Keep h h3 [] := k12.trans k3 (by simp) (by simp)
      have g3 := (k3.own (Own.iter g2) (by simp)).trans g2
      simp [el]
      cases b with
      | false =>
        refine WCode.condT (by simp [el]) (WCode.seq (WCode.region ?_))
        simp [c125_r5, el]
        refine WCode.ret ?_
        simp [el]
        refine WCode.ret ?_
        simp
        exact q _ _ k13
      | true =>
        refine WCode.condF (by simp [el]) (WCode.skip ?_)
        simp [el]
        exact ⟨s.length - (pos + w), by omega, k13, (Own.iter g3).lt, e1, e8, _, g3, rfl⟩
end Go.Proofs.YtjihmonajekomaaGreatDoor.Ax

namespace Go.Proofs.YtjihmonajekomaaGreatDoor.Ax
open Go
set_option linter.unusedVariables false
set_option linter.unusedSimpArgs false
namespace R
theorem lower328 {h : AH} {b : Int} {Q : AV → AH → Prop} (q : ∀ c, Q (.int .u8 c) h) : WCall E2 (.fn 328) [.int .u8 b] h Q := by
  refine call2 F328 rfl (WCode.seq (WCode.region ?_))
  simp [c328, c328_r0]
  refine WCode.seq (WCode.seq (WCode.region ?_))
  by_cases h1 : 65 ≤ b
  · by_cases h2 : b ≤ 90
    · simp [c328_r1, h1, h2]
      refine WCode.condT (by simp) (WCode.seq (WCode.region ?_))
      simp [c328_r2]
      refine WCode.ret ?_
      simp
      exact q _
    · simp [c328_r1, h1, h2]
      refine WCode.condF (by simp) (WCode.skip ?_)
      simp
      refine WCode.seq (WCode.region ?_)
      simp [c328_r3]
      refine WCode.ret ?_
      simp
      exact q _
  · simp [c328_r1, h1]
    refine WCode.condF (by simp) (WCode.skip ?_)
    simp
    refine WCode.seq (WCode.region ?_)
    simp [c328_r3]
    refine WCode.ret ?_
    simp
    exact q _

theorem Lower233 {h : AH} {s : List Nat} {Q : AV → AH → Prop} (hl : s.length < 100000) (q : ∀ t h', t.length = s.length → Keep h h' [] → Q (.str t) h') : WCall E2 (.fn 233) [.str s] h Q := by
  refine call2 F233 rfl (WCode.seq (WCode.region ?_))
  simp [c233, c233_r0]
  refine WCode.seq (WCode.region ?_)
  simp [c233_r1]
  have k1 := Keep.row h (s.map byteAV) 5 false []
  have s1 : IsSl (h.row (s.map byteAV) 5 false) (.slice (some (h.next, 0)) s.length s.length 1) 5 1 u8C (s.map fun b : Nat => (b : Int)) h.next := by
    have := IsSl.rowP h 5 false (L := s.map fun b : Nat => (b : Int)) u8C_len u8C_flat (map_byteAV s)
    simpa using this
  generalize (h.row (s.map byteAV) 5 false) = h1 at *
  generalize (AV.slice (some (h.next, 0)) s.length s.length 1) = v at *
  refine WCode.seq (WCode.seq (WCode.region ?_))
  simp [c233_r2, s1.lenV]
  refine WCode.block (WCode.loop (Inv := fun m env h' => m ≤ s.length ∧ env.length = 23 ∧ Keep h1 h' [h.next] ∧ (∃ L : List Int, L.length = s.length ∧ IsSl h' v 5 1 u8C L h.next) ∧ slot env 3 = v ∧ slot env 8 = v ∧ slot env 9 = .int .i64 s.length ∧ slot env 10 = .int .i64 ((s.length - m : Nat) : Int)) ?_ s.length _ _ ⟨Nat.le_refl _, rfl, Keep.refl _ _, ⟨_, by simp, s1⟩, rfl, rfl, rfl, by simp [slot_zero, slot_succ]⟩)
  rintro m env h2 ⟨hm, hlen, k2, ⟨L, hL, s2⟩, e3, e8, e9, e10⟩
  refine WCode.seq (WCode.region ?_)
  simp [c233_r3, hlen, e9, e10]
  cases m with
  | zero =>
    refine WCode.seq (WCode.condF (by simp [hlen]) (WCode.exit ?_))
    simp
    refine WCode.seq (WCode.region ?_)
    simp [c233_r8, hlen, e3, s2.bytes]
    refine WCode.ret ?_
    simp [hlen]
    exact q _ h2 (by simp [hL]) (k1.trans k2 (by simp) (by simp))
  | succ m =>
    refine WCode.seq (WCode.condT (by simp [hlen]; omega) (WCode.skip ?_))
    simp
    obtain ⟨y, hy⟩ : ∃ y, L[s.length - (m + 1)]? = some y := ⟨L[s.length - (m + 1)]'(by omega), List.getElem?_eq_getElem (by omega)⟩
    obtain ⟨b, o, hidx, hc, hst⟩ := s2.io1 hy
    refine WCode.seq (WCode.block (WCode.seq (WCode.region ?_)))
    simp [c233_r4, hlen, e8, e10, hidx, hc]
    refine WCode.region ?_
    simp [c233_r5, hlen, e3]
    refine lower328 fun c => ?_
    obtain ⟨h3, g1, s3, k3, n3⟩ := hst c
    simp [hlen, e3, hidx]
    refine BQ.of g1 ?_
    simp [hlen]
    refine WCode.region ?_
    simp [c233_r6, hlen, e10]
    refine ⟨m, by omega, by omega, k2.trans k3 (by simp) (by simp), ⟨_, by simp [hL], s3⟩, ?_⟩
    simp [hlen, e3, e8, e9]
    rw [wrap_i64 (by omega) (by omega)]; omega

end R
variable {h : AH} {Q : AV → AH → Prop}

theorem lit231 {s : List Nat} (hs : s.length < 100000) (q : ∀ b h', Keep h h' [] → Q (.bool b) h') : WCall E2 (.fn 231) [.str s] h Q := by
  refine call2 F231 rfl (WCode.seq (WCode.region ?_))
  simp [c231, c231_r0]
  refine WCode.seq (WCode.region ?_)
  simp [c231_r1]
  refine cutp325 hs fun t b0 ht => ?_
  simp
  refine WCode.seq (WCode.region ?_)
  simp [c231_r2]
  refine cuts326 (by omega) fun t2 b1 ht2 => ?_
  simp
  refine WCode.seq (WCode.seq (WCode.region ?_))
  simp [c231_r3]
  have k0 := Keep.push h (.strIter t2 0) []
  have g0 := get_push_new h (.strIter t2 0) h.next rfl
  generalize (h.push (.strIter t2 0)) = h0 at *
  refine WCode.block (WCode.loop (Inv := fun m env h' => env.length = 44 ∧ Keep h h' [] ∧ slot env 3 = .str t2 ∧ slot env 5 = .bool b1 ∧ slot env 19 = .ptr (some (h.next, 0)) ∧ (slot env 4 = .bool true ∨ slot env 4 = .bool false) ∧ ∃ pos, h'.get h.next = .strIter t2 pos ∧ t2.length - pos = m) ?_ t2.length _ _ ⟨rfl, k0, rfl, rfl, rfl, by cases b0 <;> simp [slot_zero, slot_succ], 0, g0, rfl⟩)
  rintro m env h1 ⟨el, k1, e3, e5, e19, e4', pos, g1, hm⟩
  obtain ⟨b, e4⟩ : ∃ b, slot env 4 = .bool b := by rcases e4' with e | e <;> exact ⟨_, e⟩
  refine WCode.seq (WCode.region ?_)
  rcases nextStr_any g1 with ⟨hp, en⟩ | ⟨hp, c, w, hw, en⟩
  · simp [c231_r4, el, e19, en]
    refine WCode.seq (WCode.condF (by simp [el]) (WCode.exit ?_))
    simp
    refine WCode.seq (WCode.region ?_)
    cases b <;> cases b1 <;> simp [c231_r8, el, e3, e4, e5] <;> (refine WCode.ret ?_; simp [el]; exact q _ _ k1)
  · have o1 := Own.iter g1
    have k2 := Keep.setAt o1 (.strIter t2 (pos + w))
    have g2 := AH.get_set_same (i := h.next) o1.1 (.strIter t2 (pos + w))
    simp [c231_r4, el, e19, en]
    refine WCode.seq (WCode.condT (by simp [el]) (WCode.skip ?_))
    simp
    have k12 : Keep h (h1.set h.next (.strIter t2 (pos + w))) [] := k1.trans k2 (by simp) (by simp)
    generalize (h1.set h.next (.strIter t2 (pos + w))) = h2 at *
    refine WCode.block (WCode.seq (WCode.region ?_))
    simp [c231_r5, el]
    refine WCode.region ?_
    cases b with
    | false =>
      simp [c231_r6, el, e4]
      exact ⟨t2.length - (pos + w), by omega, k12, e3, e5, e19, _, g2, rfl⟩
    | true =>
      simp [c231_r6, el, e4]
      refine hex323 fun x => ?_
      cases x with
      | true =>
        simp [el]
        exact ⟨t2.length - (pos + w), by omega, k12, e3, e5, e19, _, g2, rfl⟩
      | false =>
        by_cases c1 : (c : Int) = 58
        · simp [el, c1]
          exact ⟨t2.length - (pos + w), by omega, k12, e3, e5, e19, _, g2, rfl⟩
        · have c1' : ((c : Int) == 58) = false := by simpa using c1
          simp [el, c1, c1']
          exact ⟨t2.length - (pos + w), by omega, k12, e3, e5, e19, by omega, _, g2, rfl⟩

theorem num327 {s : List Nat} {b t : Int} (hb : b ≠ 0) (q : ∀ (n e : Int) h', -9223372036854775808 ≤ n ∧ n ≤ 9223372036854775807 → Keep h h' [] → Q (.tuple [.int .i64 n, .int .i64 e]) h') : WCall E2 (.fn 327) [.str s, .int .i64 b, .int .i64 t] h Q := by
  refine call2 F327 rfl (WCode.seq (WCode.region ?_))
  simp [c327, c327_r0]
  refine WCode.seq (WCode.seq (WCode.region ?_))
  by_cases hs : s = []
  · simp [c327_r1, hs]
    refine WCode.condT (by simp) (WCode.seq (WCode.region ?_))
    simp [c327_r2]
    refine WCode.ret ?_
    simp
    exact q _ _ _ (by omega) (Keep.refl _ _)
  · have hs' : s.isEmpty = false := by simpa using hs
    simp [c327_r1, hs, hs']
    refine WCode.condF (by simp [hs, hs']) (WCode.skip ?_)
    simp
    refine WCode.seq (WCode.region ?_)
    simp [c327_r3]
    refine WCode.seq (WCode.seq (WCode.region ?_))
    simp [c327_r4]
    have k0 := Keep.push h (.strIter s 0) []
    have g0 := get_push_new h (.strIter s 0) h.next rfl
    generalize (h.push (.strIter s 0)) = h0 at *
    refine WCode.block (WCode.loop (Inv := fun m env h' => env.length = 53 ∧ Keep h h' [] ∧ slot env 1 = .int .i64 b ∧ slot env 2 = .int .i64 t ∧ slot env 16 = .ptr (some (h.next, 0)) ∧ (slot env 9 = .bool true ∨ slot env 9 = .bool false) ∧ (∃ n : Int, slot env 8 = .int .i64 n ∧ -9223372036854775808 ≤ n ∧ n ≤ 9223372036854775807) ∧ ∃ pos, h'.get h.next = .strIter s pos ∧ s.length - pos = m) ?_ s.length _ _ ⟨rfl, k0, rfl, rfl, rfl, .inr rfl, ⟨0, rfl, by omega, by omega⟩, 0, g0, rfl⟩)
    rintro m env h1 ⟨el, k1, e1, e2, e16, e9', ⟨n, e8, hn1, hn2⟩, pos, g1, hm⟩
    obtain ⟨d, e9⟩ : ∃ d, slot env 9 = .bool d := by rcases e9' with e | e <;> exact ⟨_, e⟩
    refine WCode.seq (WCode.region ?_)
    rcases nextStr_any g1 with ⟨hp, en⟩ | ⟨hp, c, w, hw, en⟩
    · simp [c327_r5, el, e16, en]
      refine WCode.seq (WCode.condF (by simp [el]) (WCode.exit ?_))
      simp
      refine WCode.seq (WCode.seq (WCode.region ?_))
      simp [c327_r14, el, e9]
      cases d with
      | true =>
        refine WCode.condT (by simp [el]) (WCode.seq (WCode.region ?_))
        simp [c327_r15, el]
        refine WCode.ret ?_
        simp [el]
        exact q _ _ _ (by omega) k1
      | false =>
        refine WCode.condF (by simp [el]) (WCode.skip ?_)
        simp
        refine WCode.seq (WCode.region ?_)
        simp [c327_r16, el, e8]
        refine WCode.ret ?_
        simp [el]
        exact q _ _ _ ⟨hn1, hn2⟩ k1
    · have o1 := Own.iter g1
      have k2 := Keep.setAt o1 (.strIter s (pos + w))
      have g2 := AH.get_set_same (i := h.next) o1.1 (.strIter s (pos + w))
      simp [c327_r5, el, e16, en]
      refine WCode.seq (WCode.condT (by simp [el]) (WCode.skip ?_))
      simp
      have k12 : Keep h (h1.set h.next (.strIter s (pos + w))) [] := k1.trans k2 (by simp) (by simp)
      generalize (h1.set h.next (.strIter s (pos + w))) = h2 at *
      refine WCode.block (WCode.seq (WCode.region ?_))
      simp [c327_r6, el]
      refine WCode.seq (WCode.region ?_)
      simp [c327_r7, el]
      refine digit432 fun x => ?_
      simp [el]
      refine WCode.seq (WCode.seq (WCode.region ?_))
      by_cases hbad : x < 0 ∨ b ≤ x
      · have stop : ∀ env2 : List AV, env2.length = 53 → slot env2 28 = .bool true → WCode E2 false (.cond (.tmp 28) (.seq (.region c327_r9 false) .ret) .skip) env2 h2 (SeqQ (WCode E2 false) (.seq (.region c327_r10 false) (.seq (.region c327_r11 false) (.cond (.tmp 45) (.region c327_r12 false) .skip))) (BlockQ 1 fun ex env' h' => match ex with
            | .normal => ∃ m', m' < m ∧ env'.length = 53 ∧ Keep h h' [] ∧ slot env' 1 = .int .i64 b ∧ slot env' 2 = .int .i64 t ∧ slot env' 16 = .ptr (some (h.next, 0)) ∧ (slot env' 9 = .bool true ∨ slot env' 9 = .bool false) ∧ (∃ n : Int, slot env' 8 = .int .i64 n ∧ -9223372036854775808 ≤ n ∧ n ≤ 9223372036854775807) ∧ ∃ pos, h'.get h.next = .strIter s pos ∧ s.length - pos = m'
            | ex => BlockQ 0 (SeqQ (WCode E2 false) (.seq (.seq (.region c327_r14 false) (.cond (.tmp 51) (.seq (.region c327_r15 false) .ret) .skip)) (.seq (.region c327_r16 false) .ret)) (BodyQ [(6, none), (7, none)] Q)) ex env' h')) := by
          intro env2 l1 s28
          refine WCode.condT (by simp [s28]) (WCode.seq (WCode.region ?_))
          simp [c327_r9, l1]
          refine WCode.ret ?_
          simp [l1]
          exact q _ _ _ (by omega) k12
        by_cases hx : x < 0
        · simp [c327_r8, el, e1, hx]
          exact stop _ (by simp [el]) (by simp [el])
        · have hx2 : b ≤ x := hbad.resolve_left hx
          simp [c327_r8, el, e1, hx, hx2]
          exact stop _ (by simp [el]) (by simp [el])
      · have hx : ¬ x < 0 := fun h => hbad (.inl h)
        have hx2 : ¬ b ≤ x := fun h => hbad (.inr h)
        simp [c327_r8, el, e1, hx, hx2]
        refine WCode.condF (by simp [el]) (WCode.skip ?_)
        simp
        refine WCode.seq (WCode.region ?_)
        have fin : ∀ (env2 : List AV) (y : Bool), env2.length = 53 → slot env2 9 = .bool y → slot env2 1 = .int .i64 b → slot env2 2 = .int .i64 t → slot env2 16 = .ptr (some (h.next, 0)) → slot env2 8 = .int .i64 n → slot env2 12 = .int .i64 x →
            WCode E2 false (.seq (.region c327_r11 false) (.cond (.tmp 45) (.region c327_r12 false) .skip)) env2 h2 (BlockQ 1 fun ex env' h' => match ex with
            | .normal => ∃ m', m' < m ∧ env'.length = 53 ∧ Keep h h' [] ∧ slot env' 1 = .int .i64 b ∧ slot env' 2 = .int .i64 t ∧ slot env' 16 = .ptr (some (h.next, 0)) ∧ (slot env' 9 = .bool true ∨ slot env' 9 = .bool false) ∧ (∃ n : Int, slot env' 8 = .int .i64 n ∧ -9223372036854775808 ≤ n ∧ n ≤ 9223372036854775807) ∧ ∃ pos, h'.get h.next = .strIter s pos ∧ s.length - pos = m'
            | ex => BlockQ 0 (SeqQ (WCode E2 false) (.seq (.seq (.region c327_r14 false) (.cond (.tmp 51) (.seq (.region c327_r15 false) .ret) .skip)) (.seq (.region c327_r16 false) .ret)) (BodyQ [(6, none), (7, none)] Q)) ex env' h') := by
          intro env2 y l1 s9 s1 s2 s16 s8 s12
          refine WCode.seq (WCode.region ?_)
          simp [c327_r11, l1, s9]
          cases y with
          | true =>
            refine WCode.condF (by simp [l1]) (WCode.skip ?_)
            simp [l1, s8, s9]
            exact ⟨s.length - (pos + w), by omega, k12, s1, s2, s16, ⟨hn1, hn2⟩, _, g2, rfl⟩
          | false =>
            refine WCode.condT (by simp [l1]) (WCode.region ?_)
            simp [c327_r12, l1, s8, s1, s12, s9]
            have hr := wrap_range (IntKind.i64.wrap (n * b) + x)
            exact ⟨s.length - (pos + w), by omega, k12, s2, s16, ⟨hr.1, hr.2⟩, _, g2, rfl⟩
        cases d with
        | true =>
          simp [c327_r10, el, e9]
          exact fin _ true (by simp [el]) (by simp [el]) (by simp [el, e1]) (by simp [el, e2]) (by simp [el, e16]) (by simp [el, e8]) (by simp [el])
        | false =>
          by_cases hxt : t < x
          · simp [c327_r10, el, e9, e2, hxt]
            exact fin _ true (by simp [el]) (by simp [el]) (by simp [el, e1]) (by simp [el, e2]) (by simp [el, e16]) (by simp [el, e8]) (by simp [el])
          · simp [c327_r10, el, e9, e2, hxt, e8, e1, hb]
            exact fin _ _ (by simp [el]) (by simp [el]; rfl) (by simp [el, e1]) (by simp [el, e2]) (by simp [el, e16]) (by simp [el, e8]) (by simp [el])

theorem dec232 {s : List Nat} {t : Int} (q : ∀ (n e : Int) h', -9223372036854775808 ≤ n ∧ n ≤ 9223372036854775807 → Keep h h' [] → Q (.tuple [.int .i64 n, .int .i64 e]) h') : WCall E2 (.fn 232) [.str s, .int .i64 t] h Q := by
  refine call2 F232 rfl (WCode.seq (WCode.region ?_))
  simp [c232, c232_r0]
  refine WCode.seq (WCode.region ?_)
  simp [c232_r1]
  refine num327 (by omega) fun n e h' hn k => ?_
  simp
  refine WCode.ret ?_
  simp
  exact q _ _ _ hn k
end Go.Proofs.YtjihmonajekomaaGreatDoor.Ax

namespace Go.Proofs.YtjihmonajekomaaGreatDoor.Ax
open Go
set_option linter.unusedVariables false
set_option linter.unusedSimpArgs false
variable {h : AH} {Q : AV → AH → Prop}

theorem row_long {h : AH} {b : Nat} {L : List Int} {e F : Nat} {n : Nat} (hs : IsSl h (.slice (some (b, 0)) n n 1) e 1 u8C L F) (hL : L.length = n) (hn : 0 < n) : ∃ row e' base sh pl, h.get b = .cells row e' F base sh false pl ∧ n ≤ row.length := by
  rcases hs.is with ⟨rfl, e', h0⟩ | ⟨b', o, c, row, base, sh, pl, hv, h2, h3, h4⟩
  · simp at hL; omega
  · simp only [AV.slice.injEq, Option.some.injEq, Prod.mk.injEq] at hv
    obtain ⟨⟨rfl, rfl⟩, _, _, _⟩ := hv
    refine ⟨row, e, base, sh, pl, h3, ?_⟩
    obtain ⟨a1, a2⟩ := (cellsAt_iff h3).1 h4
    have hlen : (L.flatMap u8C).length = n := by rw [flatMap_len u8C_len, hL, Nat.mul_one]
    have := a2 (n - 1) _ (List.getElem?_eq_getElem (by omega))
    have := (List.getElem?_eq_some_iff.1 this).1
    omega

theorem io1F {h : AH} {F n : Nat} {L : List Int} {e : Nat} (hs : IsSl h (.slice (some (F, 0)) n n 1) e 1 u8C L F) {i : Nat} {x : Int} (hi : i < n) (hx : L[i]? = some x) : cell1 h F i = some (.int .u8 x) ∧
    ∀ y, ∃ h', storeV h 1 (.ptr (some (F, i))) (.int .u8 y) = some h' ∧ IsSl h' (.slice (some (F, 0)) n n 1) e 1 u8C (L.set i y) F ∧ Keep h h' [F] ∧ h'.next = h.next := by
  obtain ⟨b, o, h1, h2, h3⟩ := hs.io1 hx
  have := h1 .i64
  simp [idxAddrV, hi] at this
  obtain ⟨rfl, rfl⟩ := this
  exact ⟨h2, h3⟩

theorem sign16 {m : Nat} (hm : m < 10) : ∃ y : Nat, ([48, 49, 50, 51, 52, 53, 54, 55, 56, 57, 97, 98, 99, 100, 101, 102] : List Nat)[m]? = some y := by
  match m, hm with
  | 0, _ | 1, _ | 2, _ | 3, _ | 4, _ | 5, _ | 6, _ | 7, _ | 8, _ | 9, _ => exact ⟨_, rfl⟩

set_option maxHeartbeats 1000000 in
theorem fig329 {n : Int} (hn : -9223372036854775808 ≤ n ∧ n ≤ 9223372036854775807) (q : ∀ (t : List Nat) h', t.length ≤ 64 → Keep h h' [] → Q (.str t) h') : WCall E2 (.fn 329) [.int .i64 n, .int .i64 10] h Q := by
  refine call2 F329 rfl (WCode.seq (WCode.region ?_))
  simp [c329, c329_r0]
  refine WCode.seq (WCode.region ?_)
  have hz : ∀ z : List AV, z = List.replicate 64 (.int .u8 0) → IsSl (h.row z 460 true) (.slice (some (h.next, 0)) 64 64 1) 460 1 u8C (List.replicate 64 (0 : Int)) h.next := by
    rintro z rfl
    have := IsSl.rowP h 460 true (L := List.replicate 64 (0 : Int)) u8C_len u8C_flat (replicate_u8 64 0)
    simpa using this
  simp [c329_r1]
  have s0 := hz [.int .u8 0, .int .u8 0, .int .u8 0, .int .u8 0, .int .u8 0, .int .u8 0, .int .u8 0, .int .u8 0, .int .u8 0, .int .u8 0, .int .u8 0, .int .u8 0, .int .u8 0, .int .u8 0, .int .u8 0, .int .u8 0, .int .u8 0, .int .u8 0, .int .u8 0, .int .u8 0, .int .u8 0, .int .u8 0, .int .u8 0, .int .u8 0, .int .u8 0, .int .u8 0, .int .u8 0, .int .u8 0, .int .u8 0, .int .u8 0, .int .u8 0, .int .u8 0, .int .u8 0, .int .u8 0, .int .u8 0, .int .u8 0, .int .u8 0, .int .u8 0, .int .u8 0, .int .u8 0, .int .u8 0, .int .u8 0, .int .u8 0, .int .u8 0, .int .u8 0, .int .u8 0, .int .u8 0, .int .u8 0, .int .u8 0, .int .u8 0, .int .u8 0, .int .u8 0, .int .u8 0, .int .u8 0, .int .u8 0, .int .u8 0, .int .u8 0, .int .u8 0, .int .u8 0, .int .u8 0, .int .u8 0, .int .u8 0, .int .u8 0, .int .u8 0] rfl
  have k0 := Keep.row h [.int .u8 0, .int .u8 0, .int .u8 0, .int .u8 0, .int .u8 0, .int .u8 0, .int .u8 0, .int .u8 0, .int .u8 0, .int .u8 0, .int .u8 0, .int .u8 0, .int .u8 0, .int .u8 0, .int .u8 0, .int .u8 0, .int .u8 0, .int .u8 0, .int .u8 0, .int .u8 0, .int .u8 0, .int .u8 0, .int .u8 0, .int .u8 0, .int .u8 0, .int .u8 0, .int .u8 0, .int .u8 0, .int .u8 0, .int .u8 0, .int .u8 0, .int .u8 0, .int .u8 0, .int .u8 0, .int .u8 0, .int .u8 0, .int .u8 0, .int .u8 0, .int .u8 0, .int .u8 0, .int .u8 0, .int .u8 0, .int .u8 0, .int .u8 0, .int .u8 0, .int .u8 0, .int .u8 0, .int .u8 0, .int .u8 0, .int .u8 0, .int .u8 0, .int .u8 0, .int .u8 0, .int .u8 0, .int .u8 0, .int .u8 0, .int .u8 0, .int .u8 0, .int .u8 0, .int .u8 0, .int .u8 0, .int .u8 0, .int .u8 0, .int .u8 0] 460 true []
  generalize (h.row [.int .u8 0, .int .u8 0, .int .u8 0, .int .u8 0, .int .u8 0, .int .u8 0, .int .u8 0, .int .u8 0, .int .u8 0, .int .u8 0, .int .u8 0, .int .u8 0, .int .u8 0, .int .u8 0, .int .u8 0, .int .u8 0, .int .u8 0, .int .u8 0, .int .u8 0, .int .u8 0, .int .u8 0, .int .u8 0, .int .u8 0, .int .u8 0, .int .u8 0, .int .u8 0, .int .u8 0, .int .u8 0, .int .u8 0, .int .u8 0, .int .u8 0, .int .u8 0, .int .u8 0, .int .u8 0, .int .u8 0, .int .u8 0, .int .u8 0, .int .u8 0, .int .u8 0, .int .u8 0, .int .u8 0, .int .u8 0, .int .u8 0, .int .u8 0, .int .u8 0, .int .u8 0, .int .u8 0, .int .u8 0, .int .u8 0, .int .u8 0, .int .u8 0, .int .u8 0, .int .u8 0, .int .u8 0, .int .u8 0, .int .u8 0, .int .u8 0, .int .u8 0, .int .u8 0, .int .u8 0, .int .u8 0, .int .u8 0, .int .u8 0, .int .u8 0] 460 true) = h0 at *
  clear hz
  refine WCode.seq (WCode.region ?_)
  simp [c329_r2]
  refine WCode.seq (WCode.block (WCode.loop (Inv := fun m env h' => m ≤ 64 ∧ env.length = 32 ∧ Keep h h' [] ∧ (∃ L : List Int, L.length = 64 ∧ IsSl h' (.slice (some (h.next, 0)) 64 64 1) 460 1 u8C L h.next) ∧ slot env 1 = .int .i64 10 ∧ slot env 5 = .ptr (some (h.next, 0)) ∧ slot env 6 = .int .i64 (m : Int) ∧ ∃ n : Int, slot env 0 = .int .i64 n ∧ -9223372036854775808 ≤ n ∧ n ≤ 9223372036854775807 ∧ n.natAbs < 10 ^ m) ?_ 64 _ _ ⟨by omega, rfl, k0, ⟨_, by simp, s0⟩, rfl, rfl, rfl, n, rfl, hn.1, hn.2, by omega⟩))
  clear s0 k0 h0 hn n
  rintro m env h1 ⟨hm, el, k1, ⟨L, hL, s1⟩, e1, e5, e6, n, e0, n1, n2, n3⟩
  refine WCode.seq (WCode.seq (WCode.region ?_))
  by_cases hstop : m ≠ 64 ∧ n = 0
  · obtain ⟨g1, rfl⟩ := hstop
    have g1' : ¬ (m : Int) = 64 := by omega
    have g1'' : ((m : Int) == 64) = false := by simpa using g1'
    simp [c329_r3, el, e6, e0, g1, g1', g1'']
    refine WCode.condF (by simp [el]) (WCode.exit ?_)
    simp
    refine WCode.seq (WCode.region ?_)
    obtain ⟨row, e', base, sh, pl, hr, hrl⟩ := row_long s1 hL (by omega)
    have hb : bounds 64 64 (some (.int .i64 (m : Int))) none none = some (m, 64, 64) := bounds_eq (.inr ⟨.i64, rfl⟩) (.inl ⟨rfl, rfl⟩) (by omega) (by omega)
    have hs := sliceArrV_at (n := 64) (size := 1) (o := 0) hr (by omega) hb
    obtain ⟨v', hv, s2⟩ := s1.sub m 64 (by omega) (by omega) none (.inl rfl) (some (.int .i64 (m : Int))) none (.inl rfl) (.inr ⟨rfl, hL.symm, rfl⟩)
    have hv2 : v' = .slice (some (h.next, 0 + m * 1)) (64 - m) (64 - m) 1 := by
      have hv3 := hv
      simp [sliceV, hb] at hv3
      simpa using hv3.symm
    subst hv2
    try simp at s2
    try simp at hs
    simp [c329_r9, el, e6, e5, hs]
    rw [s2.bytes]
    simp [el]
    refine WCode.ret ?_
    simp [el]
    exact q _ _ (by simp; omega) k1
  · have hg : m = 64 ∨ n ≠ 0 := by omega
    have hm0 : m ≠ 0 := by
      rintro rfl
      rcases hg with g | g
      · omega
      · have : n.natAbs < 1 := by simpa using n3
        omega
    obtain ⟨m, rfl⟩ : ∃ k, m = k + 1 := ⟨m - 1, by omega⟩
    have go : ∀ env : List AV, env.length = 32 → slot env 0 = .int .i64 n → slot env 1 = .int .i64 10 → slot env 5 = .ptr (some (h.next, 0)) → slot env 6 = .int .i64 ((m + 1 : Nat) : Int) → slot env 13 = .bool true →
        WCode E2 false (.cond (.tmp 13) .skip (.exit 0)) env h1 (SeqQ (WCode E2 false) (.block 1 (.seq (.region c329_r4 false) (.seq (.region c329_r5 false) (.seq (.region c329_r6 false) (.region c329_r7 false))))) fun ex env' h' => match ex with
          | .normal => ∃ m', m' < m + 1 ∧ m' ≤ 64 ∧ env'.length = 32 ∧ Keep h h' [] ∧ (∃ L : List Int, L.length = 64 ∧ IsSl h' (.slice (some (h.next, 0)) 64 64 1) 460 1 u8C L h.next) ∧ slot env' 1 = .int .i64 10 ∧ slot env' 5 = .ptr (some (h.next, 0)) ∧ slot env' 6 = .int .i64 (m' : Int) ∧ ∃ n : Int, slot env' 0 = .int .i64 n ∧ -9223372036854775808 ≤ n ∧ n ≤ 9223372036854775807 ∧ n.natAbs < 10 ^ m'
          | ex => BlockQ 0 (SeqQ (WCode E2 false) (.seq (.region c329_r9 false) .ret) (BodyQ [(4, none)] Q)) ex env' h') := by
      intro env el e0 e1 e5 e6 e13
      refine WCode.condT (by simp [e13]) (WCode.skip ?_)
      simp
      refine WCode.block (WCode.seq (WCode.region ?_))
      have hw : IntKind.i64.wrap (m : Int) = (m : Int) := wrap_i64 (by omega) (by omega)
      simp [c329_r4, el, e6, hw]
      refine WCode.seq (WCode.region ?_)
      have hd1 : (n.tmod 10).natAbs < 10 := by rw [Int.natAbs_tmod]; exact Nat.mod_lt _ (by decide)
      have hd2 : (n.tdiv 10).natAbs < 10 ^ m := by
        rw [Int.natAbs_tdiv]
        rw [Nat.pow_succ] at n3
        exact Nat.div_lt_of_lt_mul (by rw [Nat.mul_comm]; exact n3)
      have hd3 : (n.tdiv 10).natAbs = n.natAbs / 10 := by rw [Int.natAbs_tdiv]; rfl
      simp [c329_r5, el, e0, e1]
      generalize n.tmod 10 = d at *
      refine WCode.seq (WCode.region ?_)
      have hwn : IntKind.i64.wrap (-d) = -d := wrap_i64 (by omega) (by omega)
      obtain ⟨y, hy⟩ := sign16 hd1
      obtain ⟨x, hx⟩ : ∃ x, L[m]? = some x := ⟨L[m]'(by omega), List.getElem?_eq_getElem (by omega)⟩
      obtain ⟨hc, hst⟩ := io1F s1 (by omega) hx
      obtain ⟨h2, g1, s3, k3, n3'⟩ := hst y
      have hmx : (if -d > d then -d else d) = (d.natAbs : Int) := by split <;> omega
      simp [c329_r6, el, hwn, hmx, hy, byteAV, e5, (by omega : m < 64)]
      refine ⟨by omega, BQ.of g1 ?_⟩
      simp
      refine WCode.region ?_
      have hw2 : IntKind.i64.wrap (n.tdiv 10) = n.tdiv 10 := wrap_i64 (by omega) (by omega)
      simp [c329_r7, el, hw2, e0, e1, e5]
      exact ⟨m, by omega, by omega, k1.trans k3 (by simp) (by simp), ⟨_, by simp [hL], s3⟩, rfl, by omega, by omega, by simpa [Int.natAbs_tdiv] using hd2⟩
    by_cases g : m + 1 = 64
    · have g' : (m : Int) + 1 = 64 := by omega
      have e6' : slot env 6 = .int .i64 64 := by rw [e6, g]; rfl
      simp [c329_r3, el, e6', e0]
      refine go _ (by simp [el]) (by simp [el, e0]) (by simp [el, e1]) (by simp [el, e5]) (by simp [el, e6', g']) (by simp [el])
    · have g' : ¬ (m : Int) + 1 = 64 := by omega
      have g2 : n ≠ 0 := by omega
      have g'' : ((m : Int) + 1 == 64) = false := by simpa using g'
      simp [c329_r3, el, e6, e0, g, g', g'', g2]
      refine go _ (by simp [el]) (by simp [el, e0]) (by simp [el, e1]) (by simp [el, e5]) (by simp [el, e6]) (by simp [el, g, g', g'', g2])

theorem text234 {n : Int} (hn : -9223372036854775808 ≤ n ∧ n ≤ 9223372036854775807) (q : ∀ (t : List Nat) h', t.length ≤ 65 → Keep h h' [] → Q (.str t) h') : WCall E2 (.fn 234) [.int .i64 n] h Q := by
  refine call2 F234 rfl (WCode.seq (WCode.region ?_))
  simp [c234, c234_r0]
  refine WCode.seq (WCode.seq (WCode.region ?_))
  by_cases h1 : n < 0
  · simp [c234_r1, h1]
    refine WCode.condT (by simp [h1]) (WCode.seq (WCode.region ?_))
    simp [c234_r2]
    refine fig329 hn fun t h' ht k => ?_
    have hmt : 1 + t.length ≤ maxText := by unfold maxText; omega
    simp [hmt]
    refine WCode.ret ?_
    simp
    exact q _ _ (by simp; omega) k
  · simp [c234_r1, h1]
    refine WCode.condF (by simp [h1]) (WCode.skip ?_)
    simp
    refine WCode.seq (WCode.region ?_)
    simp [c234_r3]
    refine fig329 hn fun t h' ht k => ?_
    simp
    refine WCode.ret ?_
    simp
    exact q _ _ (by omega) k

theorem text124 {s : List Nat} {n : Int} (hs : s.length < 100000) (hn : -9223372036854775808 ≤ n ∧ n ≤ 9223372036854775807) (q : ∀ (t : List Nat) h', t.length ≤ s.length + 66 → Keep h h' [] → Q (.str t) h') : WCall E2 (.fn 124) [.str s, .int .i64 n] h Q := by
  refine call2 F124 rfl (WCode.seq (WCode.region ?_))
  simp [c124, c124_r0]
  refine WCode.seq (WCode.region ?_)
  simp [c124_r1]
  refine R.Lower233 hs fun t h1 ht k1 => ?_
  simp
  refine WCode.seq (WCode.seq (WCode.region ?_))
  by_cases g : n = 80
  · simp [c124_r2, g]
    refine WCode.condT (by simp [g]) (WCode.seq (WCode.region ?_))
    simp [c124_r3]
    refine WCode.ret ?_
    simp
    exact q _ _ (by omega) k1
  · have g' : (n == 80) = false := by simpa using g
    simp [c124_r2, g, g']
    refine WCode.condF (by simp [g, g']) (WCode.skip ?_)
    simp
    refine WCode.seq (WCode.region ?_)
    have hm1 : t.length + 1 ≤ maxText := by unfold maxText; omega
    simp [c124_r4, hm1]
    refine text234 hn fun t2 h2 ht2 k2 => ?_
    have hm2 : t.length + 1 + t2.length ≤ maxText := by unfold maxText; omega
    simp [hm2]
    refine WCode.ret ?_
    simp
    exact q _ _ (by simp; omega) (k1.trans k2 (by simp) (by simp))

theorem parse123 {s : List Nat} (hs : s.length < 100000) (q : ∀ (t : List Nat) (n e : Int) h', t.length ≤ s.length → -9223372036854775808 ≤ n ∧ n ≤ 9223372036854775807 → Keep h h' [] → Q (.tuple [.str t, .int .i64 n, .int .i64 e]) h') : WCall E2 (.fn 123) [.str s] h Q := by
  refine call2 F123 rfl (WCode.seq (WCode.region ?_))
  simp [c123, c123_r0]
  refine WCode.seq (WCode.seq (WCode.region ?_))
  by_cases g : s = []
  · simp [c123_r1, g]
    refine WCode.condT (by simp [g]) (WCode.seq (WCode.region ?_))
    simp [c123_r2]
    refine WCode.ret ?_
    simp
    exact q _ _ _ _ (by simp) (by omega) (Keep.refl _ _)
  · have g' : s.isEmpty = false := by simpa using g
    simp [c123_r1, g, g']
    refine WCode.condF (by simp [g, g']) (WCode.skip ?_)
    simp
    refine WCode.seq (WCode.region ?_)
    simp [c123_r3]
    refine cut229 hs fun a b ok ha hb => ?_
    simp
    refine WCode.seq (WCode.seq (WCode.region ?_))
    have rest : ∀ h1 (env : List AV), Keep h h1 [] → env.length = 40 → slot env 2 = .str a → slot env 5 = .str b → slot env 6 = .bool ok → (slot env 22 = .bool true ∨ slot env 22 = .bool false) →
        WCode E2 false (.cond (.tmp 22) (.seq (.region c123_r5 false) .ret) .skip) env h1 (SeqQ (WCode E2 false) (.seq (.seq (.region c123_r6 false) (.cond (.tmp 24) (.seq (.region c123_r7 false) .ret) .skip)) (.seq (.region c123_r8 false) (.seq (.seq (.region c123_r9 false) (.block 0 (.seq (.region c123_r10 false) (.cond (.tmp 32) (.seq (.region c123_r11 false) .ret) (.seq (.region c123_r12 false) (.cond (.tmp 37) (.seq (.region c123_r13 false) .ret) .skip)))))) (.seq (.region c123_r14 false) .ret)))) (BodyQ [(2, none), (3, none), (4, none)] Q)) := by
      intro h1 env k1 el e2 e5 e6 e22
      rcases e22 with e22 | e22
      · refine WCode.condT (by simp [e22]) (WCode.seq (WCode.region ?_))
        simp [c123_r5, el]
        refine WCode.ret ?_
        simp [el]
        exact q _ _ _ _ (by simp) (by omega) k1
      · refine WCode.condF (by simp [e22]) (WCode.skip ?_)
        simp
        refine WCode.seq (WCode.seq (WCode.region ?_))
        simp [c123_r6, el, e6]
        cases ok with
        | false =>
          refine WCode.condT (by simp [el]) (WCode.seq (WCode.region ?_))
          simp [c123_r7, el, e2]
          refine WCode.ret ?_
          simp [el]
          exact q _ _ _ _ ha (by omega) k1
        | true =>
          refine WCode.condF (by simp [el]) (WCode.skip ?_)
          simp
          refine WCode.seq (WCode.region ?_)
          simp [c123_r8, el, e5]
          refine dec232 fun n e h2 hn k2 => ?_
          have k12 : Keep h h2 [] := k1.trans k2 (by simp) (by simp)
          simp [el]
          refine WCode.seq (WCode.seq (WCode.region ?_))
          simp [c123_r9, el]
          refine WCode.block (WCode.seq (WCode.region ?_))
          by_cases c0 : e = 0
          · simp [c123_r10, el, c0]
            refine WCode.condT (by simp [el]) (WCode.seq (WCode.region ?_))
            simp [c123_r11, el, e2]
            refine WCode.ret ?_
            simp [el]
            exact q _ _ _ _ ha hn k12
          · have c0' : (e == 0) = false := by simpa using c0
            simp [c123_r10, el, c0, c0']
            refine WCode.condF (by simp [el, c0, c0']) (WCode.seq (WCode.region ?_))
            by_cases c5 : e = 5
            · simp [c123_r12, el, c5]
              refine WCode.condT (by simp [el]) (WCode.seq (WCode.region ?_))
              simp [c123_r13, el]
              refine WCode.ret ?_
              simp [el]
              exact q _ _ _ _ (by simp) (by omega) k12
            · have c5' : (e == 5) = false := by simpa using c5
              simp [c123_r12, el, c5, c5']
              refine WCode.condF (by simp [el, c5, c5']) (WCode.skip ?_)
              simp
              refine WCode.seq (WCode.region ?_)
              simp [c123_r14, el]
              refine WCode.ret ?_
              simp [el]
              exact q _ _ _ _ (by simp) (by omega) k12
    simp [c123_r4]
    refine reg230 fun b1 h1 k1 => ?_
    cases b1 with
    | true =>
      simp
      exact rest _ _ k1 (by simp) (by simp) (by simp) (by simp) (by simp)
    | false =>
      simp
      refine lit231 (by omega) fun b2 h2 k2 => ?_
      simp
      exact rest _ _ (k1.trans k2 (by simp) (by simp)) (by simp) (by simp) (by simp) (by simp) (by cases b2 <;> simp)

theorem key53 {s : List Nat} (hs : s.length < 90000) (q : ∀ (t : List Nat) b h', Keep h h' [] → Q (.tuple [.str t, .bool b]) h') : WCall E2 (.fn 53) [.str s] h Q := by
  refine call2 F53 rfl (WCode.seq (WCode.region ?_))
  simp [c53, c53_r0]
  refine WCode.seq (WCode.region ?_)
  simp [c53_r1]
  refine parse123 (by omega) fun t n e h1 ht hn k1 => ?_
  simp
  refine WCode.seq (WCode.seq (WCode.region ?_))
  by_cases g : e = 0
  · simp [c53_r2, g]
    refine WCode.condF (by simp [g]) (WCode.skip ?_)
    simp
    refine WCode.seq (WCode.region ?_)
    simp [c53_r4]
    refine text124 (by omega) hn fun t2 h2 ht2 k2 => ?_
    simp
    refine WCode.ret ?_
    simp
    exact q _ _ _ (k1.trans k2 (by simp) (by simp))
  · simp [c53_r2, g]
    refine WCode.condT (by simp [g]) (WCode.seq (WCode.region ?_))
    simp [c53_r3]
    refine WCode.ret ?_
    simp
    exact q _ _ _ k1
end Go.Proofs.YtjihmonajekomaaGreatDoor.Ax
