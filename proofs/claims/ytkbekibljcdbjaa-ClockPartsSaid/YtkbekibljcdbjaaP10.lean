/- What the reference's functions on the clock's rows do, by the evaluator. Conditions: as each theorem states. -/
import Derived.Test.YtkbekibljcdbjaaP9
namespace Go.Proofs.Ytkbekibljcdbjaa.Ax
open Go
set_option linter.unusedVariables false
set_option linter.unusedSimpArgs false

theorem without36 {h : AH} {w : AV} {L : List (Int × Int)} {F : Nat} {id : Int} {Q : AV → AH → Prop} (hs : IsSl h w 75 2 entC L F) (hl : L.length < 100000)
    (q : ∀ w' h' F', IsSl h' w' 75 2 entC (L.filter fun r => r.1 != id) F' → Keep h h' [] → h.next ≤ F' → Q w' h') : WCall E0 (.fn 36) [w, .int .i64 id] h Q := by
  refine call0 F36 (WCode.seq (WCode.region ?_))
  simp [c36, c36_r0]
  refine WCode.seq (WCode.region ?_)
  simp [c36_r1]
  refine WCode.seq (WCode.seq (WCode.region ?_))
  simp [c36_r2]
  have k0 := Keep.row h [] 75 true []
  have s0 : IsSl (h.row [] 75 true) (.slice (some (h.next, 0)) 0 0 2) 75 2 entC [] h.next := IsSl.row (L := []) h 75 hs.len hs.flat rfl 0 (by simp) rfl
  refine WCode.block (WCode.loop (Inv := fun m env h' => m ≤ L.length ∧ env.length = 29 ∧ slot env 0 = w ∧ slot env 1 = .int .i64 id ∧ slot env 6 = .int .i64 ((L.length - m : Nat) : Int) ∧
      ∃ F', IsSl h' (slot env 5) 75 2 entC ((L.take (L.length - m)).filter fun r => r.1 != id) F' ∧ Keep h h' [] ∧ h.next ≤ F') ?_ L.length _ _ ⟨Nat.le_refl _, rfl, rfl, rfl, by simp, h.next, by simpa [slot_zero, slot_succ] using s0, k0, Nat.le_refl _⟩)
  rintro m env h' ⟨hm, hlen, e0, e1, e6, F', s1, k1, hF⟩
  obtain ⟨v, e5⟩ : ∃ v, slot env 5 = v := ⟨_, rfl⟩
  rw [e5] at s1
  have hs' := hs.keep k1 (by simp)
  refine WCode.seq (WCode.seq (WCode.region ?_))
  simp [c36_r3, hlen, e0, e6, hs.lenV]
  cases m with
  | zero =>
    refine WCode.condF (by simp [hlen]) (WCode.exit ?_)
    simp
    refine WCode.seq (WCode.region ?_)
    simp [c36_r8, hlen, e5]
    refine WCode.ret ?_
    simp [hlen]
    exact q _ _ F' (by simpa using s1) k1 hF
  | succ m =>
    refine WCode.condT (by simp [hlen]; omega) (WCode.skip ?_)
    simp
    obtain ⟨y, hy⟩ : ∃ y, L[L.length - (m + 1)]? = some y := ⟨L[L.length - (m + 1)]'(by omega), List.getElem?_eq_getElem (by omega)⟩
    have htake : L.take (L.length - m) = L.take (L.length - (m + 1)) ++ [y] := by
      rw [show L.length - m = L.length - (m + 1) + 1 by omega, List.take_add_one, hy]; rfl
    obtain ⟨b, o, hidx, hr⟩ := hs'.at hy
    have r0 := hr.cell0 hy (by omega)
    simp [entC] at r0
    have fin : ∀ (env2 : List AV) (h2 : AH) (v2 : AV) (F2 : Nat), env2.length = 29 → slot env2 0 = w → slot env2 1 = .int .i64 id → slot env2 6 = .int .i64 ((L.length - (m + 1) : Nat) : Int) → slot env2 5 = v2 → IsSl h2 v2 75 2 entC ((L.take (L.length - m)).filter fun r => r.1 != id) F2 → Keep h h2 [] → h.next ≤ F2 →
        WCode E0 false (.region c36_r6 false) env2 h2 fun ex env' h' => match ex with
          | .normal => ∃ m', m' < m + 1 ∧ (m' ≤ L.length ∧ env'.length = 29 ∧ slot env' 0 = w ∧ slot env' 1 = .int .i64 id ∧ slot env' 6 = .int .i64 ((L.length - m' : Nat) : Int) ∧ ∃ F', IsSl h' (slot env' 5) 75 2 entC ((L.take (L.length - m')).filter fun r => r.1 != id) F' ∧ Keep h h' [] ∧ h.next ≤ F')
          | ex => BlockQ 0 (SeqQ (WCode E0 false) (.seq (.region c36_r8 false) .ret) (BodyQ [(4, none)] Q)) ex env' h' := by
      intro env2 h2 v2 F2 l2 a0 a1 a6 a5 s2 k2 hF2
      refine WCode.region ?_
      simp [c36_r6, l2, a6]
      refine ⟨m, by omega, by omega, by simp [a0], by simp [a1], ?_, F2, by rw [show slot _ 5 = v2 from by simp [a5]]; exact s2, k2, hF2⟩
      rw [wrap_i64 (by omega) (by omega)]; omega
    refine WCode.seq (WCode.block (WCode.seq (WCode.region ?_)))
    simp [c36_r4, hlen, e0, e1, e6, hidx, r0]
    by_cases hc : y.1 = id
    · refine WCode.condF (by simp [hlen, hc]) (WCode.skip ?_)
      simp
      refine fin _ _ v F' (by simp [hlen]) (by simp [hlen, e0]) (by simp [hlen, e1]) (by simp [hlen, e6]) (by simp [hlen, e5]) ?_ k1 hF
      rw [htake, List.filter_append]
      simpa [hc] using s1
    · refine WCode.condT (by simp [hlen, hc]) (WCode.region ?_)
      simp [c36_r5, hlen, e0, e5, e6, hidx, hr.row hy, entC_len]
      refine ⟨by simpa using entC_flat y, ?_⟩
      have ka := Keep.row h' (entC y) 75 true []
      obtain ⟨v', h1, F2, ha, s2, k2, hF2⟩ := (s1.keep ka (by simp)).append (bytes := 16) (M := [y]) ((IsSl.one h' 75 hs.len hs.flat y).taken) (by
        have := List.length_filter_le (fun r : Int × Int => r.1 != id) (L.take (L.length - (m + 1)))
        simp [room, maxText] at this ⊢; omega)
      refine BQ.of ha ?_
      simp
      refine fin _ _ v' F2 (by simp [hlen]) (by simp [hlen, e0]) (by simp [hlen, e1]) (by simp [hlen, e6]) (by simp [hlen]) ?_ ?_ ?_
      · rw [htake, List.filter_append]
        simpa [hc] using s2
      · exact k1.trans (ka.trans k2 (U := [F']) (by simp) (by simp)) (by simp) (by simp; omega)
      · have := k1.next
        rcases hF2 with rfl | rfl
        · exact hF
        · simp; omega

def rget (W : List (Int × Int)) (k : Int) : Option Int :=
  match W with
  | [] => none
  | r :: t => if r.1 = k then some r.2 else rget t k

theorem left40 {h : AH} {w : AV} {L : List (Int × Int)} {F : Nat} {id now : Int} {Q : AV → AH → Prop} (hs : IsSl h w 75 2 entC L F) (hl : L.length < 100000)
    (q0 : rget L id = none → Q (.tuple [.int .i64 0, .bool false]) h) (q1 : ∀ t, rget L id = some t → Q (.tuple [.int .i64 (IntKind.i64.wrap (t - now)), .bool true]) h) : WCall E0 (.fn 40) [w, .int .i64 id, .int .i64 now] h Q := by
  refine call0 F40 (WCode.seq (WCode.region ?_))
  simp [c40, c40_r0]
  refine WCode.seq (WCode.seq (WCode.region ?_))
  simp [c40_r1]
  refine WCode.block (WCode.loop (Inv := fun m env h' => h' = h ∧ m ≤ L.length ∧ env.length = 29 ∧ slot env 0 = w ∧ slot env 1 = .int .i64 id ∧ slot env 2 = .int .i64 now ∧ slot env 8 = .int .i64 ((L.length - m : Nat) : Int) ∧ rget L id = rget (L.drop (L.length - m)) id) ?_ L.length _ _ ⟨rfl, Nat.le_refl _, rfl, rfl, rfl, rfl, by simp [slot_zero, slot_succ], by simp⟩)
  rintro m env h' ⟨rfl, hm, hlen, e0, e1, e2, e8, hg⟩
  refine WCode.seq (WCode.seq (WCode.region ?_))
  simp [c40_r2, hlen, e0, e8, hs.lenV]
  cases m with
  | zero =>
    refine WCode.condF (by simp [hlen]) (WCode.exit ?_)
    simp
    refine WCode.seq (WCode.region ?_)
    simp [c40_r7, hlen]
    refine WCode.ret ?_
    simp [hlen]
    exact q0 (by rw [hg]; simp [rget])
  | succ m =>
    refine WCode.condT (by simp [hlen]; omega) (WCode.skip ?_)
    simp
    obtain ⟨y, hy⟩ : ∃ y, L[L.length - (m + 1)]? = some y := ⟨L[L.length - (m + 1)]'(by omega), List.getElem?_eq_getElem (by omega)⟩
    have hdrop : L.drop (L.length - (m + 1)) = y :: L.drop (L.length - m) := by
      obtain ⟨hi, e⟩ := List.getElem?_eq_some_iff.1 hy
      rw [List.drop_eq_getElem_cons hi, e, show L.length - (m + 1) + 1 = L.length - m by omega]
    rw [hdrop] at hg
    obtain ⟨b, o, hidx, hr⟩ := hs.at hy
    have r0 := hr.cell0 hy (by omega)
    have r1 := hr.cell hy 1 (by omega)
    simp [entC] at r0 r1
    refine WCode.seq (WCode.block (WCode.seq (WCode.region ?_)))
    simp [c40_r3, hlen, e0, e1, e8, hidx, r0]
    by_cases hc : y.1 = id
    · refine WCode.condT (by simp [hlen, hc]) (WCode.seq (WCode.region ?_))
      simp [c40_r4, hlen, e0, e2, e8, hidx, r1]
      refine WCode.ret ?_
      simp [hlen]
      exact q1 _ (by rw [hg]; simp [rget, hc])
    · refine WCode.condF (by simp [hlen, hc]) (WCode.skip ?_)
      simp
      refine WCode.region ?_
      simp [c40_r5, hlen, e0, e1, e2, e8]
      refine ⟨m, by omega, by omega, ?_, by rw [hg]; simp [rget, hc]⟩
      rw [wrap_i64 (by omega) (by omega)]; omega

theorem same42 {h : AH} {va vb : AV} {A B : List Int} {Fa Fb : Nat} {Q : AV → AH → Prop} (ha : IsSl h va 3 1 intC A Fa) (hb : IsSl h vb 3 1 intC B Fb) (hl : A.length < 100000) (hAB : A = B) (q : Q (.bool true) h) : WCall E0 (.fn 42) [va, vb] h Q := by
  subst hAB
  refine call0 F42 (WCode.seq (WCode.region ?_))
  simp [c42, c42_r0]
  refine WCode.seq (WCode.seq (WCode.region ?_))
  simp [c42_r1, ha.lenV, hb.lenV]
  refine WCode.condF (by simp) (WCode.skip ?_)
  simp
  refine WCode.seq (WCode.seq (WCode.region ?_))
  simp [c42_r3]
  refine WCode.block (WCode.loop (Inv := fun m env h' => h' = h ∧ m ≤ A.length ∧ env.length = 26 ∧ slot env 0 = va ∧ slot env 1 = vb ∧ slot env 5 = .int .i64 ((A.length - m : Nat) : Int)) ?_ A.length _ _ ⟨rfl, Nat.le_refl _, rfl, rfl, rfl, by simp [slot_zero, slot_succ]⟩)
  rintro m env h' ⟨rfl, hm, hlen, e0, e1, e5⟩
  refine WCode.seq (WCode.seq (WCode.region ?_))
  simp [c42_r4, hlen, e0, e5, ha.lenV]
  cases m with
  | zero =>
    refine WCode.condF (by simp [hlen]) (WCode.exit ?_)
    simp
    refine WCode.seq (WCode.region ?_)
    simp [c42_r9, hlen]
    refine WCode.ret ?_
    simp [hlen]
    exact q
  | succ m =>
    refine WCode.condT (by simp [hlen]; omega) (WCode.skip ?_)
    simp
    obtain ⟨y, hy⟩ : ∃ y, A[A.length - (m + 1)]? = some y := ⟨A[A.length - (m + 1)]'(by omega), List.getElem?_eq_getElem (by omega)⟩
    obtain ⟨b1, o1, hidx1, hr1⟩ := ha.at hy
    obtain ⟨b2, o2, hidx2, hr2⟩ := hb.at hy
    have r1 := hr1.cell0 hy (by omega)
    have r2 := hr2.cell0 hy (by omega)
    simp [intC] at r1 r2
    refine WCode.seq (WCode.block (WCode.seq (WCode.draw ?_)))
    have i1 : ∀ k, idxAddrV 1 va (.int k (A.length - (m + 1) : Nat)) = some (.ptr (some (b1, o1 + (A.length - (m + 1))))) := fun k => by simpa using hidx1 k
    have i2 : ∀ k, idxAddrV 1 vb (.int k (A.length - (m + 1) : Nat)) = some (.ptr (some (b2, o2 + (A.length - (m + 1))))) := fun k => by simpa using hidx2 k
    simp [c42_r5, hlen, e0, e1, e5, i1, i2, r1, r2]
    refine ⟨⟨chk_mem fun hh hm => ?_, chk_mem fun hh hm => ?_⟩, ?_⟩
    · simp at hm
      subst hm
      simp [hlen, r2]
    · simp at hm
      subst hm
      simp [hlen, r1]
    refine WCode.condF (by simp [hlen]) (WCode.skip ?_)
    simp
    refine WCode.region ?_
    simp [c42_r7, hlen, e0, e1, e5]
    refine ⟨m, by omega, by omega, ?_⟩
    rw [wrap_i64 (by omega) (by omega)]; omega
end Go.Proofs.Ytkbekibljcdbjaa.Ax
