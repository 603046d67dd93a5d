/- TablePool's own text, by the evaluator: true, whatever the calls. Conditions: as each theorem states. -/
import Derived.Test.YtkbekibljcdbjaaP2
namespace Go.Proofs.Ytkbekibljcdbjaa.Ax
open Go
set_option linter.unusedVariables false
set_option linter.unusedSimpArgs false

def actC (a : Int × Int × Int) : List AV := [.int .i64 a.1, .int .i64 a.2.1, .int .i64 a.2.2]

/-- Behind k calls. -/
structure PoolInv (va : AV) (L : List (Int × Int × Int)) (m : Nat) (env : List AV) (h : AH) : Prop where
  le : m ≤ L.length
  elen : env.length = 120
  ok : ∃ (M : List (Int × Int)) (p Fp Fw : Nat) (w : AV), M.length ≤ L.length - m ∧ PoolAt h p M Fp ∧ IsSl h w 55 2 entC M Fw ∧ IsIn h va 3 actC L 0 ∧ Fp ≠ Fw ∧ p ≠ Fw ∧ 0 < p ∧ 0 < Fp ∧ 0 < Fw ∧
    slot env 3 = .ptr (some (p, 0)) ∧ slot env 4 = w ∧ slot env 20 = va ∧ slot env 21 = .int .i64 L.length ∧ slot env 22 = .int .i64 ((L.length - m : Nat) : Int)

set_option maxHeartbeats 2000000 in
theorem pool5 {h : AH} {va : AV} {L : List (Int × Int × Int)} (hin : IsIn h va 3 actC L 0) (hn : 2 ≤ h.next) : WCall E0 (.fn 5) [va] h fun v _ => v = .bool true := by
  refine call0 F5 (WCode.seq (WCode.region ?_))
  simp [c5, c5_r0]
  refine WCode.seq (WCode.seq (WCode.region ?_))
  simp [c5_r1, hin.lenV]
  by_cases h100 : 100 < L.length
  · refine WCode.condT (by simp; omega) (WCode.seq (WCode.region ?_))
    simp [c5_r2]
    refine lives15 fun h1 k1 => ?_
    simp
    refine WCode.ret ?_
    simp
  refine WCode.condF (by simp; omega) (WCode.skip ?_)
  simp
  refine WCode.seq (WCode.region ?_)
  simp [c5_r3]
  refine WCode.seq (WCode.region ?_)
  simp [c5_r4]
  refine WCode.seq (WCode.seq (WCode.region ?_))
  simp [c5_r5, hin.lenV]
  have k1 := Keep.row h [.slice none 0 0 0] 51 true []
  have k2 : Keep h ((h.row [.slice none 0 0 0] 51 true).row [] 55 true) [] := k1.trans (Keep.row _ _ _ _ []) (by simp) (by simp)
  have gp : ((h.row [.slice none 0 0 0] 51 true).row [] 55 true).get h.next = .cells [some (.slice none 0 0 0)] 51 h.next 0 false false true := (get_row_old _ _ _ _ _ (by simp)).trans (get_row_new h [.slice none 0 0 0] 51 true h.next rfl)
  refine WCode.block (WCode.loop (Inv := PoolInv va L) ?_ L.length _ _ ⟨Nat.le_refl _, rfl, [], h.next, 1, h.next + 1, .slice (some (h.next + 1, 0)) 0 0 2, by simp, ⟨by omega, _, gp, by simp, entC_len, entC_flat, .inl ⟨rfl, 0, rfl⟩⟩,
    IsSl.row (f := entC) (es := 2) (L := []) (h.row [.slice none 0 0 0] 51 true) 55 entC_len entC_flat rfl 0 (by simp) rfl, hin.keep k2 (by simp), by omega, by omega, by omega, by omega, by omega, rfl, rfl, rfl, rfl, by simp [slot_zero, slot_succ]⟩)
  rintro m env h ⟨hm, hlen, M, p, Fp, Fw, w, hM, hp, hw, hi, n1, n2, n3, n4, n5, e3, e4, e20, e21, e22⟩
  refine WCode.seq (WCode.region ?_)
  simp [c5_r6, hlen, e21, e22]
  cases m with
  | zero =>
    refine WCode.seq (WCode.condF (by simp [hlen]) (WCode.exit ?_))
    simp
    refine WCode.seq (WCode.region ?_)
    simp [c5_r26, hlen]
    refine lives15 fun h1 k1 => ?_
    simp [hlen]
    refine WCode.ret ?_
    simp [hlen]
  | succ m =>
  refine WCode.seq (WCode.condT (by simp [hlen]; omega) (WCode.skip ?_))
  simp
  obtain ⟨a, hx⟩ : ∃ a, L[L.length - (m + 1)]? = some a := ⟨L[L.length - (m + 1)]'(by omega), List.getElem?_eq_getElem (by omega)⟩
  obtain ⟨b, o, hidx, hr⟩ := hi.at hx
  refine WCode.seq (WCode.block (WCode.seq (WCode.region ?_)))
  simp [c5_r7, hlen, e20, e22, hidx, hr.row hx]
  refine BQ.of (store_new (by rfl) (by rfl) (by rfl)) ?_
  try simp
  have k1 := Keep.row h (actC a) 37 true []
  have hp1 := hp.keep k1 (by simp) (by simp)
  have hw1 := hw.keep k1 (by simp)
  have hi1 := hi.keep k1 (by simp)
  have ga := get_row_new h (actC a) 37 true h.next rfl
  have gna : h.next < (h.row (actC a) 37 true).next := by simp
  have hpl := hp.lt
  have hwl := hw.lt
  have hFpl : Fp < h.next := by obtain ⟨v, _, hv⟩ := hp.is; exact hv.lt
  generalize (h.row (actC a) 37 true) = h1 at *
  have a0 := cell1_of ga 0
  have a1 := cell1_of ga 1
  have a2 := cell1_of ga 2
  simp only [actC, List.map_cons, List.map_nil, List.getElem?_cons_zero, List.getElem?_cons_succ] at a0 a1 a2
  refine WCode.seq (WCode.seq (WCode.region ?_))
  simp [c5_r8, hlen, a0]
  refine WCode.block (WCode.seq (WCode.region ?_))
  simp [c5_r9, hlen]
  have fin : ∀ (env2 : List AV) (h2 : AH) (M' : List (Int × Int)) (Fp' Fw' : Nat) (w' : AV), env2.length = 120 → M'.length ≤ L.length - m → PoolAt h2 p M' Fp' → IsSl h2 w' 55 2 entC M' Fw' → IsIn h2 va 3 actC L 0 → Fp' ≠ Fw' → p ≠ Fw' → 0 < Fp' → 0 < Fw' →
      slot env2 3 = .ptr (some (p, 0)) → slot env2 4 = w' → slot env2 20 = va → slot env2 21 = .int .i64 L.length → slot env2 22 = .int .i64 ((L.length - (m + 1) : Nat) : Int) →
      WCode E0 false (.seq (.region c5_r22 false) (.cond (.tmp 117) (.seq (.region c5_r23 false) .ret) .skip)) env2 h2 (BlockQ 1 (SeqQ E0 false (.region c5_r24 false) fun ex env' h' => match ex with
            | .normal => ∃ m', m' < m + 1 ∧ PoolInv va L m' env' h'
            | ex => BlockQ 0 (SeqQ E0 false (.seq (.region c5_r26 false) .ret) (BodyQ [(2, none)] fun v x => v = .bool true)) ex env' h')) := by
    intro env2 h2 M' Fp' Fw' w' l1 l2 l3 l4 l5 l6 l7 l8 l9 s3 s4 s20 s21 s22
    refine WCode.seq (WCode.region ?_)
    simp [c5_r22, l1, s3, s4]
    refine len27 l3 ?_
    simp [l1, s4, l4.lenV]
    refine WCode.condF (by simp [l1]) (WCode.skip ?_)
    simp
    refine WCode.region ?_
    simp [c5_r24, l1, s22]
    refine ⟨m, by omega, by omega, by simp [l1], M', p, Fp', Fw', w', l2, l3, l4, l5, l6, l7, n3, l8, l9, by simp [s3], by simp [s4], by simp [s20], by simp [s21], ?_⟩
    simp [l1]
    rw [wrap_i64 (by omega) (by omega)]
    omega
  by_cases d1 : a.1 = 1
  · refine WCode.condT (by simp [hlen, d1]) (WCode.seq (WCode.region ?_))
    simp [c5_r10, hlen, e3, a1, a2]
    refine put23 hp1 (by omega) fun h2 Fp2 hp2 k2 hF2 => ?_
    have hw2 := hw1.keep k2 (by simp; exact ⟨fun e => n2 e.symm, fun e => n1 e.symm⟩)
    have hi2 := hi1.keep k2 (by simp; omega)
    have ga2 := k2.cells ga gna (by simp; omega)
    have kn := k2.next
    have kn1 := k1.next
    simp [hlen]
    refine WCode.region ?_
    have b1 := cell1_of ga2 1
    have b2 := cell1_of ga2 2
    simp only [actC, List.map_cons, List.map_nil, List.getElem?_cons_zero, List.getElem?_cons_succ] at b1 b2
    simp [c5_r11, hlen, e4, b1, b2]
    have k3 := Keep.row h2 [.int .i64 a.2.1, .int .i64 a.2.2] 55 true []
    obtain ⟨w', h3, F', ha, hs', hk, hF⟩ := (hw2.keep k3 (by simp)).append (bytes := 16) (M := [(a.2.1, a.2.2)]) ((IsSl.one h2 55 entC_len entC_flat (a.2.1, a.2.2)).taken) (by simp [room, maxText]; omega)
    refine BQ.of ha ?_
    simp [hlen]
    have k4 : Keep h2 h3 [Fw] := k3.trans hk (by simp) (by simp)
    have hFn : F' = Fw ∨ h2.next ≤ F' := by rcases hF with e | e; exact .inl e; exact .inr (by rw [e]; simp)
    have hFp2 : Fp2 < h2.next := by obtain ⟨v, _, hv⟩ := hp2.is; exact hv.lt
    exact fin _ h3 (M ++ [(a.2.1, a.2.2)]) Fp2 F' w' (by simp [hlen]) (by simp; omega) (hp2.keep k4 (by simpa using n2) (by simp; rcases hF2 with e | e <;> omega)) hs' (hi2.keep k4 (by simp; omega)) (by rcases hF2 with e | e <;> rcases hFn with e' | e' <;> omega) (by rcases hFn with e' | e' <;> omega) (by omega) (by omega) (by simp [hlen, e3]) (by simp [hlen]) (by simp [hlen, e20]) (by simp [hlen, e21]) (by simp [hlen, e22])
  refine WCode.condF (by simp [hlen, d1]) (WCode.seq (WCode.region ?_))
  simp [c5_r12, hlen]
  by_cases d2 : a.1 = 2
  · refine WCode.condT (by simp [hlen, d2]) (WCode.seq (WCode.region ?_))
    simp [c5_r13, hlen, e3, a1]
    refine take24 hp1 (by omega) (fun hf => ?_) fun i x hf hx2 h2 Fp2 hp2 k2 hF2 => ?_
    · simp [hlen]
      refine WCode.seq (WCode.region ?_)
      simp [c5_r14, hlen, e4, a1]
      refine take25 hw1 (by omega) (fun _ => ?_) fun i x hf' => by rw [hf] at hf'; cases hf'
      simp [hlen]
      refine WCode.seq (WCode.region ?_)
      simp [c5_r15, hlen]
      refine WCode.seq (WCode.region ?_)
      simp [c5_r16, hlen]
      refine WCode.condF (by simp [hlen]) (WCode.skip ?_)
      simp
      exact fin _ h1 M Fp Fw w (by simp [hlen]) (by omega) hp1 hw1 hi1 n1 n2 n4 n5 (by simp [hlen, e3]) (by simp [hlen]) (by simp [hlen, e20]) (by simp [hlen, e21]) (by simp [hlen, e22])
    · have hi' := (List.getElem?_eq_some_iff.1 hx2).1
      have hw2 := hw1.keep k2 (by simpa using fun e => n2 e.symm)
      have hi2 := hi1.keep k2 (by simp; omega)
      have ga2 := k2.cells ga gna (by simp; omega)
      have kn := k2.next
      have kn1 := k1.next
      have b1 := cell1_of ga2 1
      simp only [actC, List.map_cons, List.map_nil, List.getElem?_cons_zero, List.getElem?_cons_succ] at b1
      simp [hlen]
      refine WCode.seq (WCode.region ?_)
      simp [c5_r14, hlen, e4, b1]
      refine take25 hw2 (by omega) (fun hf' => by rw [hf] at hf'; cases hf') fun i2 x2 hf' hx' w' h3 F3 hw3 k3 hF3 => ?_
      rw [hf] at hf'
      cases hf'
      rw [hx2] at hx'
      cases hx'
      simp [hlen]
      refine WCode.seq (WCode.region ?_)
      simp [c5_r15, hlen]
      refine WCode.seq (WCode.region ?_)
      simp [c5_r16, hlen]
      refine WCode.condF (by simp [hlen]) (WCode.skip ?_)
      simp
      have hFp2 : Fp2 < h2.next := by obtain ⟨v, _, hv⟩ := hp2.is; exact hv.lt
      exact fin _ h3 (M.eraseIdx i) Fp2 F3 w' (by simp [hlen]) (by rw [List.length_eraseIdx, if_pos hi']; omega) (hp2.keep k3 (by simp) (by simp)) hw3 (hi2.keep k3 (by simp)) (by omega) (by omega) (by omega) (by omega) (by simp [hlen, e3]) (by simp [hlen]) (by simp [hlen, e20]) (by simp [hlen, e21]) (by simp [hlen, e22])
  · refine WCode.condF (by simp [hlen, d2]) (WCode.seq (WCode.region ?_))
    simp [c5_r18, hlen, e3]
    refine old26 hp1 (by omega) (fun hM0 => ?_) fun x M' hM0 h2 Fp2 hp2 k2 hF2 => ?_
    · subst hM0
      simp [hlen]
      refine WCode.seq (WCode.seq (WCode.region ?_))
      simp [c5_r19, hlen, e4, hw1.lenV]
      refine WCode.condF (by simp [hlen]) (WCode.skip ?_)
      simp
      refine WCode.region ?_
      obtain ⟨w', hc, hcs⟩ := hw1.sub 0 0 (by omega) (by omega) none (.inl rfl) (some (.int .i64 0)) none (.inl rfl) (.inr ⟨rfl, rfl, rfl⟩)
      simp [c5_r21, hlen, e4, hw1.lenV]
      refine BQ.of (by simpa using hc) ?_
      try simp
      exact fin _ h1 [] Fp Fw w' (by simp [hlen]) (by simp) hp1 (hcs.mono (by simp)) hi1 n1 n2 n4 n5 (by simp [hlen, e3]) (by simp [hlen]) (by simp [hlen, e20]) (by simp [hlen, e21]) (by simp [hlen, e22])
    · subst hM0
      have hw2 := hw1.keep k2 (by simpa using fun e => n2 e.symm)
      have hi2 := hi1.keep k2 (by simp; omega)
      have kn := k2.next
      have kn1 := k1.next
      obtain ⟨b', o', hidx', hr'⟩ := hw2.at (i := 0) (x := x) (by simp)
      have r0 := hr'.cell0 (i := 0) (x := x) (by simp) (by omega)
      have r1 := hr'.cell (i := 0) (x := x) (by simp) 1 (by omega)
      have hid0 := hidx' .i64
      simp only [entC] at r0 r1
      simp at r0 r1 hid0
      simp [hlen]
      refine WCode.seq (WCode.seq (WCode.region ?_))
      have hl2 : lenSliceV w = some (.int .i64 ((M'.length + 1 : Nat) : Int)) := hw2.lenV
      obtain ⟨N, hN⟩ : ∃ N, N = M'.length + 1 := ⟨_, rfl⟩
      rw [← hN] at hl2
      have hNp : 0 < N := by omega
      have hNq : (0 : Int) < N := by omega
      simp [c5_r19, hlen, e4, hl2, hid0, r0, r1, hNp, hNq]
      refine WCode.condF (by simp [hlen]) (WCode.skip ?_)
      simp
      refine WCode.region ?_
      obtain ⟨w', hc, hcs⟩ := hw2.sub 1 (M'.length + 1) (by omega) (by simp) none (.inl rfl) (some (.int .i64 1)) none (.inl rfl) (.inr ⟨rfl, by simp, rfl⟩)
      have hN1 : ¬ (N : Int) < 1 := by omega
      have hN2 : ¬ N < 1 := by omega
      simp [c5_r21, hlen, e4, hl2, hN1, hN2]
      refine BQ.of hc ?_
      simp
      have hFp2 : Fp2 < h2.next := by obtain ⟨v, _, hv⟩ := hp2.is; exact hv.lt
      exact fin _ h2 M' Fp2 Fw w' (by simp [hlen]) (by simp at hM; omega) hp2 (hcs.mono (by simp)) hi2 (by omega) n2 (by omega) n5 (by simp [hlen, e3]) (by simp [hlen]) (by simp [hlen, e20]) (by simp [hlen, e21]) (by simp [hlen, e22])
end Go.Proofs.Ytkbekibljcdbjaa.Ax
