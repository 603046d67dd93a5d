/- TablePlays' own text, by the evaluator: true, whatever the number and the calls. Conditions: as each theorem states. -/
import Derived.Test.YtkbekibljcdbjaaP5
namespace Go.Proofs.Ytkbekibljcdbjaa.Ax
open Go
set_option linter.unusedVariables false
set_option linter.unusedSimpArgs false

def actC (a : Int × Int × Int) : List AV := [.int .i64 a.1, .int .i64 a.2.1, .int .i64 a.2.2]

/-- Behind some calls. -/
structure PlaysInv (va : AV) (L : List (Int × Int × Int)) (m : Nat) (env : List AV) (h : AH) : Prop where
  le : m ≤ L.length
  elen : env.length = 123
  ok : ∃ (S : List (Int × Bool)) (p Ft Fw : Nat) (w : AV), S.length ≤ 200 ∧ TableAt h p S Ft ∧ IsSl h w 91 2 slotC S Fw ∧ IsIn h va 3 actC L 0 ∧ Ft ≠ Fw ∧ p ≠ Fw ∧ 0 < p ∧ 0 < Ft ∧ 0 < Fw ∧
    slot env 5 = .ptr (some (p, 0)) ∧ slot env 6 = w ∧ slot env 49 = va ∧ slot env 50 = .int .i64 L.length ∧ slot env 51 = .int .i64 ((L.length - m : Nat) : Int)

theorem copies_slot (m : Nat) : copies [AV.int .i64 0, .bool false] m = (List.replicate m ((0 : Int), false)).flatMap slotC := by
  induction m with
  | zero => rfl
  | succ m ih => rw [List.replicate_succ, List.flatMap_cons, ← ih]; rfl

theorem getS_at {S : List (Int × Bool)} {i : Nat} {x : Int × Bool} (hx : S[i]? = some x) : getS S i = if x.2 then some x.1 else none := by
  unfold getS
  rw [if_neg (by omega), Int.toNat_natCast, hx]
  obtain ⟨a, b⟩ := x
  cases b <;> rfl

theorem getS_out {S : List (Int × Bool)} {i : Int} (h : i < 0 ∨ S.length ≤ i) : getS S i = none := by
  unfold getS
  rcases h with h | h
  · rw [if_pos h]
  · rw [if_neg (by omega), List.getElem?_eq_none (by omega)]

set_option maxHeartbeats 2000000 in
theorem plays4 {h : AH} {n : Int} {va : AV} {L : List (Int × Int × Int)} (hin : IsIn h va 3 actC L 0) : WCall E0 (.fn 4) [.int .i64 n, va] h fun v _ => v = .bool true := by
  refine call0 F4 (WCode.seq (WCode.region ?_))
  simp [c4, c4_r0]
  refine WCode.seq (WCode.seq (WCode.region ?_))
  by_cases hout : n < 0 ∨ 200 < n ∨ 100 < L.length
  · -- outside: only the bounds
    have out : ∀ (env : List AV) (Q' : AExit → List AV → AH → Prop), env.length = 123 → slot env 0 = .int .i64 n → (∀ e h', slot e 4 = .bool true → Q' .ret e h') → WCode E0 false (.seq (.region c4_r2 false) .ret) env h Q' := by
      intro env Q' hlen e0 hQ
      refine WCode.seq (WCode.region ?_)
      by_cases h1 : 0 ≤ n
      · by_cases h2 : n ≤ 1000
        · simp [c4_r2, hlen, e0, h1, h2]
          refine lives15 fun h1 k1 => ?_
          simp [hlen]
          exact WCode.ret (hQ _ _ (by simp [hlen]))
        · simp [c4_r2, hlen, e0, h1, h2]
          refine new14 (fun _ => ?_) fun m e => by omega
          simp [hlen]
          refine lives15 fun h1 k1 => ?_
          simp [hlen]
          exact WCode.ret (hQ _ _ (by simp [hlen]))
      · simp [c4_r2, hlen, e0, h1]
        refine new14 (fun _ => ?_) fun m e => by omega
        simp [hlen]
        refine lives15 fun h1 k1 => ?_
        simp [hlen]
        exact WCode.ret (hQ _ _ (by simp [hlen]))
    by_cases h1 : n < 0
    · simp [c4_r1, h1]
      refine WCode.condT (by simp) ?_
      exact out _ _ rfl rfl fun e h' he => by simp [he]
    · by_cases h2 : 200 < n
      · simp [c4_r1, h1, h2]
        refine WCode.condT (by simp) ?_
        exact out _ _ rfl rfl fun e h' he => by simp [he]
      · have h3 : 100 < L.length := by omega
        have h3' : (100 : Int) < L.length := by omega
        simp [c4_r1, h1, h2, hin.lenV, h3, h3']
        refine WCode.condT (by simp) ?_
        exact out _ _ rfl rfl fun e h' he => by simp [he]
  · have h1 : ¬ n < 0 := by omega
    have h2 : ¬ 200 < n := by omega
    have h3 : ¬ 100 < L.length := by omega
    have h3' : ¬ (100 : Int) < L.length := by omega
    simp [c4_r1, h1, h2, hin.lenV, h3, h3']
    refine WCode.condF (by simp) (WCode.skip ?_)
    simp
    obtain ⟨N, rfl⟩ : ∃ N : Nat, n = N := ⟨n.toNat, by omega⟩
    -- the table and the slots
    refine WCode.seq (WCode.draw ?_)
    simp [c4_r3]
    refine new14 (fun e => by omega) fun N' e hN h4 p Ft ht4 k4 hFt hpn => ?_
    obtain rfl : N = N' := by omega
    simp
    have hc := copies_slot N
    have hr : (0 : Int) ≤ N ∧ (N : Int) ≤ N ∧ (N : Int) * (16 : Nat) ≤ room ∧ (N : Int) ≤ maxText := by simp [room, maxText]; omega
    have hs : mkSliceV h4 [AV.int .i64 0, .bool false] 91 2 16 (.int .i64 N) (.int .i64 N) = some (.slice (some (h4.next, 0)) N N 2, h4.row ((List.replicate N ((0 : Int), false)).flatMap slotC) 91 true) := by
      rw [mkSliceV_int, if_pos hr, Int.toNat_natCast, hc]
    refine BQ.of hs ?_
    have k5 := Keep.row h4 ((List.replicate N ((0 : Int), false)).flatMap slotC) 91 true []
    have hs5 : IsSl (h4.row ((List.replicate N ((0 : Int), false)).flatMap slotC) 91 true) (.slice (some (h4.next, 0)) N N 2) 91 2 slotC (List.replicate N (0, false)) h4.next := by
      have := IsSl.row (es := 2) (f := slotC) (L := List.replicate N ((0 : Int), false)) h4 91 (fun _ => rfl) (fun _ => rfl) rfl N (by simp) (by simp)
      simpa using this
    have hn5 : (h4.row ((List.replicate N ((0 : Int), false)).flatMap slotC) 91 true).next = h4.next + 1 := rfl
    have hpl := ht4.lt
    have hFl : Ft < h4.next := by obtain ⟨v, _, hv⟩ := ht4.is; exact hv.lt
    have hin5 := hin.keep (k4.trans k5 (U := []) (by simp) (by simp)) (by simp)
    have ht5 := ht4.keep k5 (by simp) (by simp)
    have hk4 := k4.next
    have hil := hin.lt
    generalize (h4.row ((List.replicate N ((0 : Int), false)).flatMap slotC) 91 true) = h5 at *
    simp
    refine WCode.seq (WCode.seq (WCode.region ?_))
    simp [c4_r4]
    refine WCode.condF (by simp) (WCode.skip ?_)
    simp
    refine WCode.seq (WCode.seq (WCode.region ?_))
    simp [c4_r6, hin.lenV]
    refine WCode.block (WCode.loop (Inv := PlaysInv va L) ?_ L.length _ _ ⟨Nat.le_refl _, rfl, List.replicate N (0, false), p, Ft, h4.next, _, by simp; omega, ht5, hs5, hin5, by omega, by omega, by omega, by omega, by omega, rfl, rfl, rfl, rfl, by simp [slot_zero, slot_succ]⟩)
    clear hin ht5 hs5 hin5 hs ht4 k4 k5 h1 h2
    rintro m env h ⟨hm, hlen, S, p, Ft, Fw, w, hS, ht, hs, hi, n1, n2, n3, n4, n5, e5, e6, e49, e50, e51⟩
    have hSl : S.length < 100000 := by omega
    refine WCode.seq (WCode.region ?_)
    simp [c4_r7, hlen, e50, e51]
    cases m with
    | zero =>
      refine WCode.seq (WCode.condF (by simp [hlen]) (WCode.exit ?_))
      simp
      refine WCode.seq (WCode.region ?_)
      simp [c4_r30, hlen]
      refine lives15 fun h1 k1 => ?_
      simp [hlen]
      refine WCode.ret ?_
      simp [hlen]
    | succ m =>
    refine WCode.seq (WCode.condT (by simp [hlen]; omega) (WCode.skip ?_))
    simp
    obtain ⟨a, hx⟩ : ∃ a, L[L.length - (m + 1)]? = some a := ⟨L[L.length - (m + 1)]'(by omega), List.getElem?_eq_getElem (by omega)⟩
    obtain ⟨b, o, hidx, hr⟩ := hi.at hx
    refine WCode.seq (WCode.block (WCode.seq (WCode.region ?_)))
    simp [c4_r8, hlen, e49, e51, hidx, hr.row hx]
    refine BQ.of (store_new (by rfl) (by rfl) (by rfl)) ?_
    have k1 := Keep.row h (actC a) 37 true []
    have ht1 := ht.keep k1 (by simp) (by simp)
    have hs1 := hs.keep k1 (by simp)
    have hi1 := hi.keep k1 (by simp)
    have ga := get_row_new h (actC a) 37 true h.next rfl
    have gna : h.next < (h.row (actC a) 37 true).next := by simp
    have a0 : cell1 (h.row (actC a) 37 true) h.next 0 = some (.int .i64 a.1) := cell1_row _ _ _ _ _
    have a1 : cell1 (h.row (actC a) 37 true) h.next 1 = some (.int .i64 a.2.1) := cell1_row _ _ _ _ _
    have a2 : cell1 (h.row (actC a) 37 true) h.next 2 = some (.int .i64 a.2.2) := cell1_row _ _ _ _ _
    have hpl := ht.lt
    have hwl := hs.lt
    have hFl : Ft < h.next := by obtain ⟨v, _, hv⟩ := ht.is; exact hv.lt
    simp
    generalize (h.row (actC a) 37 true) = h1 at *
    have cells : ∀ {h' S'}, Keep h1 h' S' → h.next ∉ S' → cell1 h' h.next 1 = some (.int .i64 a.2.1) ∧ cell1 h' h.next 2 = some (.int .i64 a.2.2) := by
      intro h' S' k hns
      have g := k.cells ga gna hns
      exact ⟨by rw [cell1_of g]; rfl, by rw [cell1_of g]; rfl⟩
    refine WCode.seq (WCode.seq (WCode.region ?_))
    simp [c4_r9, hlen, a0]
    refine WCode.block (WCode.seq (WCode.region ?_))
    simp [c4_r10, hlen]
    have fin : ∀ (env2 : List AV) (h2 : AH) (S' : List (Int × Bool)) (Fw' : Nat) (w' : AV), env2.length = 123 → S'.length = S.length → TableAt h2 p S' Ft → IsSl h2 w' 91 2 slotC S' Fw' → IsIn h2 va 3 actC L 0 → Ft ≠ Fw' → p ≠ Fw' → 0 < Fw' →
        slot env2 5 = .ptr (some (p, 0)) → slot env2 6 = w' → slot env2 49 = va → slot env2 50 = .int .i64 L.length → slot env2 51 = .int .i64 ((L.length - (m + 1) : Nat) : Int) →
        WCode E0 false (.seq (.region c4_r26 false) (.cond (.tmp 120) (.seq (.region c4_r27 false) .ret) .skip)) env2 h2 (BlockQ 1 (SeqQ E0 false (.region c4_r28 false) fun ex env' h' => match ex with
              | .normal => ∃ m', m' < m + 1 ∧ PlaysInv va L m' env' h'
              | ex => BlockQ 0 (SeqQ E0 false (.seq (.region c4_r30 false) .ret) (BodyQ [(4, none)] fun v x => v = .bool true)) ex env' h')) := by
      intro env2 h2 S' Fw' w' l1 l2 l3 l4 l5 l6 l7 l9 s5 s6 s49 s50 s51
      refine WCode.seq (WCode.region ?_)
      simp [c4_r26, l1, s5, s6]
      refine same22 l3 l4 (by omega) fun h3 k3 => ?_
      simp [l1]
      refine WCode.condF (by simp [l1]) (WCode.skip ?_)
      simp
      refine WCode.region ?_
      simp [c4_r28, l1, s51]
      refine ⟨m, by omega, by omega, by simp [l1], S', p, Ft, Fw', w', by omega, l3.keep k3 (by simp) (by simp), l4.keep k3 (by simp), l5.keep k3 (by simp), l6, l7, n3, n4, l9, by simp [s5], by simp [s6], by simp [s49], by simp [s50], ?_⟩
      simp [l1]
      rw [wrap_i64 (by omega) (by omega)]
      omega
    have kn1 := k1.next
    by_cases d1 : a.1 = 1
    · refine WCode.condT (by simp [hlen, d1]) (WCode.seq (WCode.region ?_))
      simp [c4_r11, hlen, e6, a2]
      refine put16 hs1 hSl (fun hf => ?_) fun i hf w' h2 F' hs2 k2 hF2 => ?_
      · simp [hlen]
        refine WCode.seq (WCode.region ?_)
        simp [c4_r12, hlen]
        refine WCode.seq (WCode.seq (WCode.region ?_))
        simp [c4_r13, hlen]
        refine WCode.condT (by simp [hlen]) (WCode.region ?_)
        simp [c4_r14, hlen]
        refine WCode.seq (WCode.region ?_)
        simp [c4_r15, hlen, e5, a2]
        refine put17 ht1 hSl (fun _ => ?_) fun i hf' => by rw [hf] at hf'; cases hf'
        simp [hlen]
        refine WCode.condF (by simp [hlen]) (WCode.skip ?_)
        simp
        exact fin _ h1 S Fw w (by simp [hlen]) rfl ht1 hs1 hi1 n1 n2 n5 (by simp [hlen, e5]) (by simp [hlen]) (by simp [hlen, e49]) (by simp [hlen, e50]) (by simp [hlen, e51])
      · obtain ⟨c1, c2⟩ := cells k2 (by simp)
        have kn2 := k2.next
        simp [hlen]
        refine WCode.seq (WCode.region ?_)
        simp [c4_r12, hlen]
        refine WCode.seq (WCode.seq (WCode.region ?_))
        simp [c4_r13, hlen]
        refine WCode.condF (by simp [hlen]) (WCode.skip ?_)
        simp
        refine WCode.seq (WCode.region ?_)
        simp [c4_r15, hlen, e5, c2]
        refine put17 (ht1.keep k2 (by simp) (by simp)) hSl (fun hf' => by rw [hf] at hf'; cases hf') fun i' hf' h3 ht3 k3 => ?_
        rw [hf] at hf'
        cases hf'
        simp [hlen]
        refine WCode.condF (by simp [hlen]) (WCode.skip ?_)
        simp
        exact fin _ h3 (S.set i (a.2.2, true)) F' w' (by simp [hlen]) (by simp) ht3 (hs2.keep k3 (by simp; omega)) ((hi1.keep k2 (by simp)).keep k3 (by simp; omega)) (by omega) (by omega) (by omega) (by simp [hlen, e5]) (by simp [hlen]) (by simp [hlen, e49]) (by simp [hlen, e50]) (by simp [hlen, e51])
    refine WCode.condF (by simp [hlen, d1]) (WCode.seq (WCode.region ?_))
    simp [c4_r17, hlen]
    by_cases d2 : a.1 = 2
    · refine WCode.condT (by simp [hlen, d2]) (WCode.seq (WCode.region ?_))
      simp [c4_r18, hlen, e5, a1]
      refine get18 ht1 hSl (fun e => ?_) fun i x e hx2 => ?_
      · have hg := getS_out e
        simp [hlen]
        refine WCode.seq (WCode.region ?_)
        simp [c4_r19, hlen, e6, a1]
        refine get19 hs1 hSl (fun _ => ?_) fun i x e' hx2 => by rw [e', getS_at hx2] at hg; cases hg
        simp [hlen]
        refine WCode.seq (WCode.region ?_)
        simp [c4_r20, hlen]
        refine WCode.condF (by simp [hlen]) (WCode.skip ?_)
        simp
        exact fin _ h1 S Fw w (by simp [hlen]) rfl ht1 hs1 hi1 n1 n2 n5 (by simp [hlen, e5]) (by simp [hlen, e6]) (by simp [hlen, e49]) (by simp [hlen, e50]) (by simp [hlen, e51])
      · have hg := getS_at hx2
        obtain ⟨x1, x2⟩ := x
        simp [hlen]
        refine WCode.seq (WCode.region ?_)
        simp [c4_r19, hlen, e6, a1]
        cases x2 with
        | false =>
          refine get19 hs1 hSl (fun _ => ?_) fun i' x e' hx' => by rw [e] at e'; obtain rfl : i = i' := (by omega); rw [hx2] at hx'; cases hx'
          simp [hlen]
          refine WCode.seq (WCode.region ?_)
          simp [c4_r20, hlen]
          refine WCode.condF (by simp [hlen]) (WCode.skip ?_)
          simp
          exact fin _ h1 S Fw w (by simp [hlen]) rfl ht1 hs1 hi1 n1 n2 n5 (by simp [hlen, e5]) (by simp [hlen, e6]) (by simp [hlen, e49]) (by simp [hlen, e50]) (by simp [hlen, e51])
        | true =>
          refine get19 hs1 hSl (fun e' => by rw [e, hg] at e'; cases e') fun i' x e' hx' => ?_
          rw [e] at e'
          obtain rfl : i = i' := by omega
          rw [hx2] at hx'
          cases hx'
          simp [hlen]
          refine WCode.seq (WCode.region ?_)
          simp [c4_r20, hlen]
          refine WCode.condF (by simp [hlen]) (WCode.skip ?_)
          simp
          exact fin _ h1 S Fw w (by simp [hlen]) rfl ht1 hs1 hi1 n1 n2 n5 (by simp [hlen, e5]) (by simp [hlen, e6]) (by simp [hlen, e49]) (by simp [hlen, e50]) (by simp [hlen, e51])
    · refine WCode.condF (by simp [hlen, d2]) (WCode.seq (WCode.region ?_))
      simp [c4_r22, hlen, e6, a1]
      refine drop20 hs1 hSl (fun e => ?_) fun i x e hx2 w' h2 F' hs2 k2 hF2 => ?_
      · simp [hlen]
        refine WCode.seq (WCode.region ?_)
        simp [c4_r23, hlen]
        refine WCode.seq (WCode.region ?_)
        simp [c4_r24, hlen, e5, a1]
        refine drop21 ht1 hSl (fun _ => ?_) fun i x e' hx2 => by rw [e', getS_at hx2] at e; cases e
        simp [hlen]
        refine WCode.condF (by simp [hlen]) (WCode.skip ?_)
        simp
        exact fin _ h1 S Fw w (by simp [hlen]) rfl ht1 hs1 hi1 n1 n2 n5 (by simp [hlen, e5]) (by simp [hlen]) (by simp [hlen, e49]) (by simp [hlen, e50]) (by simp [hlen, e51])
      · obtain ⟨c1, c2⟩ := cells k2 (by simp)
        have kn2 := k2.next
        have hg := getS_at hx2
        simp [hlen]
        refine WCode.seq (WCode.region ?_)
        simp [c4_r23, hlen]
        refine WCode.seq (WCode.region ?_)
        simp [c4_r24, hlen, e5, c1]
        refine drop21 (ht1.keep k2 (by simp) (by simp)) hSl (fun e' => by rw [e, hg] at e'; cases e') fun i' x' e' hx' h3 ht3 k3 => ?_
        rw [e] at e'
        obtain rfl : i = i' := by omega
        simp [hlen]
        refine WCode.condF (by simp [hlen]) (WCode.skip ?_)
        simp
        exact fin _ h3 (S.set i (0, false)) F' w' (by simp [hlen]) (by simp) ht3 (hs2.keep k3 (by simp; omega)) ((hi1.keep k2 (by simp)).keep k3 (by simp; omega)) (by omega) (by omega) (by omega) (by simp [hlen, e5]) (by simp [hlen]) (by simp [hlen, e49]) (by simp [hlen, e50]) (by simp [hlen, e51])
end Go.Proofs.Ytkbekibljcdbjaa.Ax
