/- What the reference's functions on slots do, by the evaluator. Conditions: as each theorem states. -/
import Derived.Test.YtkbekibljcdbjaaP2
namespace Go.Proofs.Ytkbekibljcdbjaa.Ax
open Go
set_option linter.unusedVariables false
set_option linter.unusedSimpArgs false

theorem IsSl.clone {α : Type} {h : AH} {v : AV} {e0 es : Nat} {f : α → List AV} {L : List α} {F : Nat} (hs : IsSl h v e0 es f L F) (e bytes : Nat) (hroom : L.length * bytes ≤ room ∧ L.length ≤ maxText) :
    ∃ v' h' F', appendV (h.row [] e true) e es bytes (.slice (some (h.next, 0)) 0 0 es) v = some (v', h') ∧ IsSl h' v' e es f L F' ∧ Keep h h' [] ∧ h.next ≤ F' := by
  have h0 : IsSl (h.row [] e true) (.slice (some (h.next, 0)) 0 0 es) e es f [] h.next := IsSl.row (L := []) h e hs.len hs.flat rfl 0 (by simp) rfl
  obtain ⟨v', h1, F', ha, hs', hk, hF⟩ := h0.append (bytes := bytes) (M := L) ((hs.keep (Keep.row h [] e true []) (by simp)).taken) (by simpa using hroom)
  exact ⟨v', h1, F', ha, by simpa using hs', (Keep.row h _ e true []).trans hk (by simp) (by simp), by rcases hF with rfl | rfl <;> simp⟩

theorem roomy {n : Nat} (h : n < 100000) : n * 16 ≤ room ∧ n ≤ maxText := by simp [room, maxText]; omega

theorem get19 {h : AH} {w : AV} {S F} {at_ : Int} {Q : AV → AH → Prop} (hs : IsSl h w 91 2 slotC S F) (hl : S.length < 100000)
    (q0 : getS S at_ = none → Q (.tuple [.int .i64 0, .bool false]) h)
    (q1 : ∀ (i : Nat) x, at_ = i → S[i]? = some (x, true) → Q (.tuple [.int .i64 x, .bool true]) h) :
    WCall E0 (.fn 19) [w, .int .i64 at_] h Q := by
  refine call0 F19 (WCode.seq (WCode.region ?_))
  simp [c19, c19_r0]
  refine WCode.seq (WCode.seq (WCode.region ?_))
  by_cases h1 : at_ < 0
  · simp [c19_r1, h1]
    refine WCode.condT (by simp) (WCode.seq (WCode.region ?_))
    simp [c19_r2]
    refine WCode.ret ?_
    simp
    exact q0 (by unfold getS; rw [if_pos h1])
  · by_cases h2 : (S.length : Int) ≤ at_
    · simp [c19_r1, h1, h2, hs.lenV]
      refine WCode.condT (by simp) (WCode.seq (WCode.region ?_))
      simp [c19_r2]
      refine WCode.ret ?_
      simp
      exact q0 (by unfold getS; rw [if_neg h1, List.getElem?_eq_none (by omega)])
    · obtain ⟨i, rfl⟩ : ∃ i : Nat, at_ = i := ⟨at_.toNat, by omega⟩
      obtain ⟨x, hx⟩ : ∃ x, S[i]? = some x := ⟨S[i]'(by omega), List.getElem?_eq_getElem (by omega)⟩
      obtain ⟨b, o, hidx, hr⟩ := hs.at hx
      have r0 := hr.cell0 hx (by omega)
      have r1 := hr.cell hx 1 (by omega)
      obtain ⟨x1, x2⟩ := x
      simp only [slotC] at r0 r1
      have h1' : ¬ ((i : Int) < 0) := h1
      have h2' : ¬ S.length ≤ i := by omega
      simp at r0 r1
      cases x2 with
      | false =>
        simp [c19_r1, h1, h2, h2', hs.lenV, hidx, r1]
        refine WCode.condT (by simp) (WCode.seq (WCode.region ?_))
        simp [c19_r2]
        refine WCode.ret ?_
        simp
        exact q0 (by unfold getS; rw [if_neg h1, Int.toNat_natCast, hx])
      | true =>
        simp [c19_r1, h1, h2, h2', hs.lenV, hidx, r1]
        refine WCode.condF (by simp) (WCode.skip ?_)
        simp
        refine WCode.seq (WCode.region ?_)
        simp [c19_r3, hidx, r0]
        refine WCode.ret ?_
        simp
        exact q1 i x1 rfl hx

theorem put16 {h : AH} {w : AV} {S F} {x : Int} {Q : AV → AH → Prop} (hs : IsSl h w 91 2 slotC S F) (hl : S.length < 100000)
    (q0 : S.findIdx? (fun x => !x.2) = none → Q (.tuple [w, .int .i64 0, .bool false]) h)
    (q1 : ∀ i, S.findIdx? (fun x => !x.2) = some i → ∀ w' h' F', IsSl h' w' 91 2 slotC (S.set i (x, true)) F' → Keep h h' [] → h.next ≤ F' → Q (.tuple [w', .int .i64 i, .bool true]) h') :
    WCall E0 (.fn 16) [w, .int .i64 x] h Q := by
  refine call0 F16 (WCode.seq (WCode.region ?_))
  simp [c16, c16_r0]
  refine WCode.seq (WCode.seq (WCode.region ?_))
  simp [c16_r1]
  refine WCode.block (WCode.loop (Inv := fun m env h' => h' = h ∧ m ≤ S.length ∧ env.length = 32 ∧ slot env 0 = w ∧ slot env 1 = .int .i64 x ∧ slot env 7 = .int .i64 ((S.length - m : Nat) : Int) ∧ ∀ x ∈ S.take (S.length - m), x.2 = true) ?_ S.length _ _ ⟨rfl, Nat.le_refl _, rfl, rfl, rfl, by simp [slot_zero, slot_succ], by simp⟩)
  rintro m env h' ⟨rfl, hm, hlen, e0, e1, e7, hall⟩
  refine WCode.seq (WCode.seq (WCode.region ?_))
  simp [c16_r2, hlen, e0, e7, hs.lenV]
  cases m with
  | zero =>
    refine WCode.condF (by simp [hlen]) (WCode.exit ?_)
    simp
    refine WCode.seq (WCode.region ?_)
    simp [c16_r9, hlen, e0]
    refine WCode.ret ?_
    simp [hlen]
    refine q0 (List.findIdx?_eq_none_iff.2 fun x hx => ?_)
    have := hall x (by simpa using hx)
    simp [this]
  | succ m =>
    refine WCode.condT (by simp [hlen]; omega) (WCode.skip ?_)
    simp
    obtain ⟨y, hy⟩ : ∃ y, S[S.length - (m + 1)]? = some y := ⟨S[S.length - (m + 1)]'(by omega), List.getElem?_eq_getElem (by omega)⟩
    obtain ⟨b, o, hidx, hr⟩ := hs.at hy
    have r1 := hr.cell hy 1 (by omega)
    have hyl := (List.getElem?_eq_some_iff.1 hy).1
    obtain ⟨y1, y2⟩ := y
    simp [slotC] at r1
    refine WCode.seq (WCode.block (WCode.seq (WCode.region ?_)))
    simp [c16_r3, hlen, e0, e7, hidx, r1]
    cases y2 with
    | false =>
      refine WCode.condT (by simp [hlen]) (WCode.seq (WCode.region ?_))
      obtain ⟨v', h1, F', ha, hs1, k1, hF⟩ := hs.clone 91 16 (roomy hl)
      simp [c16_r4, hlen, e0]
      refine BQ.of ha ?_
      simp [hlen]
      obtain ⟨b2, o2, h2, s1, s2, s3, s4, s5⟩ := hs1.store hyl (x, true)
      refine WCode.seq (WCode.region ?_)
      simp [c16_r5, hlen, e1, e7, s1]
      refine BQ.of (show storeV h1 2 (.ptr (some (b2, o2 + (S.length - (m + 1)) * 2))) (.agg (slotC (x, true))) = some h2 from by rw [storeV_ptr]; exact s2) ?_
      simp
      refine WCode.seq (WCode.region ?_)
      simp [c16_r6, hlen, e7]
      refine WCode.ret ?_
      simp [hlen]
      refine q1 _ ?_ _ h2 F' s3 (k1.trans s4 (by simp) (by simp; omega)) hF
      refine List.findIdx?_eq_some_iff_getElem.2 ⟨hyl, ?_, fun j hj => ?_⟩
      · have := (List.getElem?_eq_some_iff.1 hy).2
        rw [this]; rfl
      · have hj2 : j < S.length := by omega
        have hmem : S[j] ∈ S.take (S.length - (m + 1)) := List.mem_take_iff_getElem.2 ⟨j, by omega, rfl⟩
        simp [hall _ hmem]
    | true =>
      refine WCode.condF (by simp [hlen]) (WCode.skip ?_)
      simp
      refine WCode.region ?_
      simp [c16_r7, hlen, e0, e1, e7]
      refine ⟨m, by omega, by omega, ?_, ?_⟩
      · rw [wrap_i64 (by omega) (by omega)]; omega
      · have : S.length - m = S.length - (m + 1) + 1 := by omega
        rw [this, List.take_add_one]
        intro a hab
        simp only [List.mem_append, hy, Option.mem_toList, Option.some.injEq] at hab
        rcases hab with hab | hab
        · exact Bool.noConfusion (hall _ hab)
        · cases hab

theorem drop20 {h : AH} {w : AV} {S F} {at_ : Int} {Q : AV → AH → Prop} (hs : IsSl h w 91 2 slotC S F) (hl : S.length < 100000)
    (q0 : getS S at_ = none → Q (.tuple [w, .bool false]) h)
    (q1 : ∀ (i : Nat) x, at_ = i → S[i]? = some (x, true) → ∀ w' h' F', IsSl h' w' 91 2 slotC (S.set i (0, false)) F' → Keep h h' [] → h.next ≤ F' → Q (.tuple [w', .bool true]) h') :
    WCall E0 (.fn 20) [w, .int .i64 at_] h Q := by
  refine call0 F20 (WCode.seq (WCode.region ?_))
  simp [c20, c20_r0]
  refine WCode.seq (WCode.seq (WCode.region ?_))
  simp [c20_r1]
  refine get19 hs hl (fun e => ?_) fun i x e hx => ?_
  · simp
    refine WCode.seq (WCode.region ?_)
    simp [c20_r2]
    refine WCode.condT (by simp) (WCode.seq (WCode.region ?_))
    simp [c20_r3]
    refine WCode.ret ?_
    simp
    exact q0 e
  · subst e
    have hi := (List.getElem?_eq_some_iff.1 hx).1
    simp
    refine WCode.seq (WCode.region ?_)
    simp [c20_r2]
    refine WCode.condF (by simp) (WCode.skip ?_)
    simp
    refine WCode.seq (WCode.region ?_)
    obtain ⟨v', h1, F', ha, hs1, k1, hF⟩ := hs.clone 91 16 (roomy hl)
    simp [c20_r4]
    refine BQ.of ha ?_
    simp
    obtain ⟨b2, o2, h2, s1, s2, s3, s4, s5⟩ := hs1.store hi (0, false)
    refine WCode.seq (WCode.region ?_)
    simp [c20_r5, s1]
    refine BQ.of (show storeV h1 2 (.ptr (some (b2, o2 + i * 2))) (.agg (slotC (0, false))) = some h2 from by rw [storeV_ptr]; exact s2) ?_
    simp
    refine WCode.seq (WCode.region ?_)
    simp [c20_r6]
    refine WCode.ret ?_
    simp
    exact q1 i x rfl hx _ h2 F' s3 (k1.trans s4 (by simp) (by simp; omega)) hF

theorem many_take {S : List (Int × Bool)} {k : Nat} {y : Int × Bool} (hy : S[k]? = some y) : many (S.take (k + 1)) = many (S.take k) + if y.2 then 1 else 0 := by
  simp only [many, List.take_add_one, hy, Option.toList, List.countP_append, List.countP_cons, List.countP_nil, Nat.zero_add]

theorem len45 {h : AH} {w : AV} {S F} {Q : AV → AH → Prop} (hs : IsSl h w 91 2 slotC S F) (hl : S.length < 100000) (q : Q (.int .i64 (many S : Nat)) h) : WCall E0 (.fn 45) [w] h Q := by
  refine call0 F45 (WCode.seq (WCode.region ?_))
  simp [c45, c45_r0]
  refine WCode.seq (WCode.region ?_)
  simp [c45_r1]
  refine WCode.seq (WCode.seq (WCode.region ?_))
  simp [c45_r2]
  refine WCode.block (WCode.loop (Inv := fun m env h' => h' = h ∧ m ≤ S.length ∧ env.length = 19 ∧ slot env 0 = w ∧ slot env 3 = .int .i64 ((many (S.take (S.length - m)) : Nat) : Int) ∧ slot env 4 = .int .i64 ((S.length - m : Nat) : Int)) ?_ S.length _ _ ⟨rfl, Nat.le_refl _, rfl, rfl, by simp [slot_zero, slot_succ, many], by simp [slot_zero, slot_succ]⟩)
  rintro m env h' ⟨rfl, hm, hlen, e0, e3, e4⟩
  refine WCode.seq (WCode.seq (WCode.region ?_))
  simp [c45_r3, hlen, e0, e4, hs.lenV]
  cases m with
  | zero =>
    refine WCode.condF (by simp [hlen]) (WCode.exit ?_)
    simp
    refine WCode.seq (WCode.region ?_)
    simp [c45_r8, hlen, e3]
    refine WCode.ret ?_
    simp [hlen]
    exact q
  | succ m =>
    refine WCode.condT (by simp [hlen]; omega) (WCode.skip ?_)
    simp
    obtain ⟨y, hy⟩ : ∃ y, S[S.length - (m + 1)]? = some y := ⟨S[S.length - (m + 1)]'(by omega), List.getElem?_eq_getElem (by omega)⟩
    obtain ⟨b, o, hidx, hr⟩ := hs.at hy
    have r1 := hr.cell hy 1 (by omega)
    have ht := many_take hy
    have hmt : many (S.take (S.length - (m + 1))) ≤ S.length - (m + 1) := by have := many_le (S.take (S.length - (m + 1))); simp at this; omega
    rw [show S.length - (m + 1) + 1 = S.length - m by omega] at ht
    obtain ⟨y1, y2⟩ := y
    simp [slotC] at r1
    refine WCode.seq (WCode.block (WCode.seq (WCode.region ?_)))
    simp [c45_r4, hlen, e0, e4, hidx, r1]
    cases y2 with
    | true =>
      refine WCode.condT (by simp [hlen]) (WCode.region ?_)
      simp [c45_r5, hlen, e3]
      refine WCode.region ?_
      simp [c45_r6, hlen, e4]
      simp at ht
      refine ⟨m, by omega, by omega, by simp [e0], ?_, ?_⟩
      · rw [wrap_i64 (by omega) (by omega), ht]; omega
      · rw [wrap_i64 (by omega) (by omega)]; omega
    | false =>
      refine WCode.condF (by simp [hlen]) (WCode.skip ?_)
      simp
      refine WCode.region ?_
      simp [c45_r6, hlen, e3, e4]
      simp at ht
      refine ⟨m, by omega, by omega, by simp [e0], by rw [ht], ?_⟩
      rw [wrap_i64 (by omega) (by omega)]; omega
end Go.Proofs.Ytkbekibljcdbjaa.Ax
