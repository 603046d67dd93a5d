/- TablePlays: a table held against the reference's slots (through its iterator), by the evaluator. Conditions: as each theorem states. -/
import Derived.Test.YtkbekibljcdbjaaP4
namespace Go.Proofs.Ytkbekibljcdbjaa.Ax
open Go
set_option linter.unusedVariables false
set_option linter.unusedSimpArgs false

theorem clone52 {h : AH} {v : AV} {S : List (Int × Bool)} {F} {Q : AV → AH → Prop} (hs : IsSl h v 93 2 slotC S F) (hl : S.length < 100000) (q : ∀ v' h' F', IsSl h' v' 93 2 slotC S F' → Keep h h' [] → (S = [] ∨ h.next ≤ F') → Q v' h') :
    WCall E0 (.fn 52) [v] h Q := by
  refine call0 F52 (WCode.seq (WCode.region ?_))
  simp [c52, c52_r0]
  refine WCode.seq (WCode.seq (WCode.region ?_))
  rcases hs.is with ⟨rfl, e', rfl⟩ | ⟨b, o, c, row, base, sh, pl, rfl, k2, k3, k4⟩
  · simp [c52_r1]
    refine WCode.condT (by simp) (WCode.seq (WCode.region ?_))
    simp [c52_r2]
    refine WCode.ret ?_
    simp
    exact q _ _ F ⟨hs.lt, hs.len, hs.flat, .inl ⟨rfl, 0, rfl⟩⟩ (Keep.refl _ _) (.inl rfl)
  · simp [c52_r1]
    refine WCode.condF (by simp) (WCode.skip ?_)
    simp
    refine WCode.seq (WCode.region ?_)
    obtain ⟨v', h1, F', ha, hs1, k1, hF⟩ := hs.clone 93 16 (roomy hl)
    simp [c52_r3]
    refine BQ.of ha ?_
    simp
    refine WCode.ret ?_
    simp
    exact q _ h1 F' hs1 k1 (.inr hF)

theorem all29 {h : AH} {p : Nat} {Q : AV → AH → Prop} (q : ∀ h' c, h'.get c = .cells [some (.ptr (some (p, 0)))] 33 c 0 false false true → Keep h h' [] → h.next ≤ c → Q (.func (.func 51) [] [.ptr (some (c, 0))]) h') :
    WCall E0 (.fn 29) [.ptr (some (p, 0))] h Q := by
  refine call0 F29 (WCode.seq (WCode.region ?_))
  simp [c29, c29_r0, boxV]
  refine WCode.seq (WCode.region ?_)
  simp [c29_r1]
  refine WCode.ret ?_
  simp
  exact q _ h.next (get_row_new _ _ _ _ _ rfl) (Keep.row _ _ _ _ _) (Nat.le_refl _)

theorem yield46 {h : AH} {w : AV} {S F} {i : Nat} {x nx : Int} {ql qo qn : Nat} {Q : AV → AH → Prop} (hs : IsSl h w 91 2 slotC S F) (hl : S.length < 100000) (hx : S[i]? = some (x, true)) (hn : nx < i)
    (gl : h.get ql = .cells [some w] 35 ql 0 false false true) (go : h.get qo = .cells [some (.bool true)] 4 qo 0 false false true) (gn : h.get qn = .cells [some (.int .i64 nx)] 3 qn 0 false false true) (hne : qo ≠ qn)
    (q : ∀ h', h'.get qo = .cells [some (.bool true)] 4 qo 0 false false true → h'.get qn = .cells [some (.int .i64 i)] 3 qn 0 false false true → Keep h h' [qo, qn] → Q (.bool true) h') :
    WCall E0 (.fn 46) [.int .i64 i, .int .i64 x, .ptr (some (ql, 0)), .ptr (some (qo, 0)), .ptr (some (qn, 0))] h Q := by
  refine call0 F46 (WCode.seq (WCode.region ?_))
  simp [c46, c46_r0]
  refine WCode.seq (WCode.region ?_)
  simp [c46_r1, cell1_of gl]
  refine get19 hs hl (fun e => ?_) fun j y hj hy => ?_
  · exfalso
    unfold getS at e
    rw [if_neg (by omega), Int.toNat_natCast, hx] at e
    cases e
  obtain rfl : i = j := by omega
  rw [hx] at hy
  cases hy
  simp
  refine WCode.seq (WCode.region ?_)
  simp [c46_r2, cell1_of go, cell1_of gn, hn]
  refine BQ.of (storeV_one go ⟨rfl, rfl⟩) ?_
  have k1 := Keep.set go (.cells [some (.bool true)] 4 qo 0 false false true)
  have gn1 := k1.cells gn (cells_lt gn) (by simpa using hne.symm)
  simp
  refine WCode.seq (WCode.region ?_)
  simp [c46_r3]
  refine BQ.of (storeV_one gn1 ⟨rfl, rfl⟩) ?_
  have k2 := Keep.set gn1 (.cells [some (.int .i64 i)] 3 qn 0 false false true)
  simp
  refine WCode.seq (WCode.region ?_)
  simp [c46_r4]
  refine WCode.ret ?_
  simp
  exact q _ (k2.cells (AH.get_set_same (by rw [go]; simp) _) (by simpa using cells_lt go) (by simpa using hne)) (AH.get_set_same (by rw [gn1]; simp) _) (k1.trans k2 (by simp) (by simp))

theorem yield47 {h : AH} {n : Int} {a x : AV} {qm : Nat} {Q : AV → AH → Prop} (h0 : 0 ≤ n) (hn : n < 1000) (gm : h.get qm = .cells [some (.int .i64 n)] 3 qm 0 false false true)
    (q : ∀ h', h'.get qm = .cells [some (.int .i64 (n + 1))] 3 qm 0 false false true → Keep h h' [qm] → Q (.bool (decide (n + 1 < 2))) h') :
    WCall E0 (.fn 47) [a, x, .ptr (some (qm, 0))] h Q := by
  refine call0 F47 (WCode.seq (WCode.region ?_))
  simp [c47, c47_r0]
  refine WCode.seq (WCode.region ?_)
  simp [c47_r1, cell1_of gm]
  rw [wrap_i64 (n := n + 1) (by omega) (by omega)]
  refine BQ.of (storeV_one gm ⟨rfl, rfl⟩) ?_
  have k1 := Keep.set gm (.cells [some (.int .i64 (n + 1))] 3 qm 0 false false true)
  have g1 := AH.get_set_same (i := qm) (show h.get qm ≠ .dead by rw [gm]; simp) (.cells [some (.int .i64 (n + 1))] 3 qm 0 false false true)
  simp
  refine WCode.seq (WCode.region ?_)
  simp [c47_r2, cell1_of g1]
  refine WCode.ret ?_
  simp
  exact q _ g1 k1

/-- The iterator, held against the slots: what is told is in them. -/
theorem each46 {h : AH} {p ct : Nat} {w : AV} {S Ft Fw} {ql qo qn : Nat} {Q : AV → AH → Prop} (ht : TableAt h p S Ft) (hs : IsSl h w 91 2 slotC S Fw) (hl : S.length < 100000)
    (gc : h.get ct = .cells [some (.ptr (some (p, 0)))] 33 ct 0 false false true)
    (gl : h.get ql = .cells [some w] 35 ql 0 false false true) (go : h.get qo = .cells [some (.bool true)] 4 qo 0 false false true) (gn : h.get qn = .cells [some (.int .i64 (-1))] 3 qn 0 false false true)
    (hne : qo ≠ qn) (n1 : ql ≠ qo) (n2 : ql ≠ qn) (n3 : Fw ≠ qo) (n4 : Fw ≠ qn)
    (q : ∀ h', h'.get qo = .cells [some (.bool true)] 4 qo 0 false false true → Keep h h' [qo, qn] → Q (.tuple []) h') :
    WCall E0 (.fn 51) [.func (.func 46) [] [.ptr (some (ql, 0)), .ptr (some (qo, 0)), .ptr (some (qn, 0))], .ptr (some (ct, 0))] h Q := by
  obtain ⟨vt, gt, hts⟩ := ht.is
  refine call0 F51 (WCode.seq (WCode.seq (WCode.region ?_)))
  simp [c51, c51_r0, cell1_of gc]
  refine WCode.condF (by simp) (WCode.skip ?_)
  simp
  refine WCode.seq (WCode.region ?_)
  simp [c51_r1, cell1_of gc, cell1_of gt]
  refine clone52 hts hl fun v1 h1 F1 hs1 k1 hF1 => ?_
  simp [hs1.lenV]
  have gl1 := k1.cells gl (cells_lt gl) (by simp)
  have go1 := k1.cells go (cells_lt go) (by simp)
  have gn1 := k1.cells gn (cells_lt gn) (by simp)
  have hw1 := hs.keep k1 (by simp)
  have kn : h.next ≤ h1.next := k1.next
  have lo' := cells_lt go
  have ln' := cells_lt gn
  have ll' := cells_lt gl
  refine WCode.block (WCode.loop (Inv := fun m env h' => m ≤ S.length ∧ env.length = 29 ∧ Keep h1 h' [qo, qn] ∧ (∃ nx : Int, nx < ((S.length - m : Nat) : Int) ∧ h'.get qn = .cells [some (.int .i64 nx)] 3 qn 0 false false true) ∧ h'.get qo = .cells [some (.bool true)] 4 qo 0 false false true ∧
    slot env 0 = .func (.func 46) [] [.ptr (some (ql, 0)), .ptr (some (qo, 0)), .ptr (some (qn, 0))] ∧ slot env 11 = v1 ∧ slot env 12 = .int .i64 S.length ∧ slot env 13 = .int .i64 ((S.length - m : Nat) : Int)) ?_ S.length _ _ ⟨Nat.le_refl _, rfl, Keep.refl _ _, ⟨-1, by omega, gn1⟩, go1, rfl, rfl, rfl, by simp [slot_zero, slot_succ]⟩)
  rintro m env h2 ⟨hm, hlen, k2, ⟨nx, hnx, gn2⟩, go2, e0, e11, e12, e13⟩
  refine WCode.seq (WCode.region ?_)
  simp [c51_r2, hlen, e12, e13]
  cases m with
  | zero =>
    refine WCode.seq (WCode.condF (by simp [hlen]) (WCode.exit ?_))
    simp
    exact q h2 go2 (k1.trans k2 (by simp) (by simp))
  | succ m =>
    refine WCode.seq (WCode.condT (by simp [hlen]; omega) (WCode.skip ?_))
    simp
    obtain ⟨y, hy⟩ : ∃ y, S[S.length - (m + 1)]? = some y := ⟨S[S.length - (m + 1)]'(by omega), List.getElem?_eq_getElem (by omega)⟩
    have hF1' : h.next ≤ F1 := by
      rcases hF1 with e | e
      · subst e; simp at hm
      · exact e
    obtain ⟨b, o, hidx, hr⟩ := rows_keep hs1 k2 (by simp; omega) hy
    refine WCode.seq (WCode.block (WCode.seq (WCode.region ?_)))
    simp [c51_r3, hlen, e11, e13, hidx, hr.row hy]
    refine BQ.of (store_new (by rfl) (by rfl) (by rfl)) ?_
    have k3 := Keep.row h2 (slotC y) 93 true []
    have gy := get_row_new h2 (slotC y) 93 true h2.next rfl
    have kk3 : Keep h1 (h2.row (slotC y) 93 true) [qo, qn] := k2.trans k3 (by simp) (by simp)
    have gn3 := k3.cells gn2 (by have := k2.next; omega) (by simp)
    have go3 := k3.cells go2 (by have := k2.next; omega) (by simp)
    have gl3 := kk3.cells gl1 (by omega) (by simp; exact ⟨n1, n2⟩)
    have hw3 := hw1.keep kk3 (by simp; exact ⟨n3, n4⟩)
    obtain ⟨y1', y2'⟩ := y
    have y0 : cell1 (h2.row (slotC (y1', y2')) 93 true) h2.next 0 = some (.int .i64 y1') := cell1_row _ _ _ _ _
    have y1 : cell1 (h2.row (slotC (y1', y2')) 93 true) h2.next 1 = some (.bool y2') := cell1_row _ _ _ _ _
    simp [hlen, e13]
    generalize (h2.row (slotC (y1', y2')) 93 true) = h3 at *
    refine WCode.seq (WCode.region ?_)
    have fin : ∀ (env2 : List AV) (h4 : AH) (nx4 : Int), env2.length = 29 → Keep h1 h4 [qo, qn] → nx4 < ((S.length - m : Nat) : Int) → h4.get qn = .cells [some (.int .i64 nx4)] 3 qn 0 false false true → h4.get qo = .cells [some (.bool true)] 4 qo 0 false false true →
        slot env2 0 = .func (.func 46) [] [.ptr (some (ql, 0)), .ptr (some (qo, 0)), .ptr (some (qn, 0))] → slot env2 11 = v1 → slot env2 12 = .int .i64 S.length → slot env2 13 = .int .i64 ((S.length - (m + 1) : Nat) : Int) → slot env2 27 = .bool false →
        WCode E0 false (.cond (.tmp 27) .ret .skip) env2 h4 (BlockQ 1 (SeqQ E0 false (.region c51_r5 false) fun ex env' h' => match ex with
          | .normal => ∃ m', m' < m + 1 ∧ m' ≤ S.length ∧ env'.length = 29 ∧ Keep h1 h' [qo, qn] ∧ (∃ nx : Int, nx < ((S.length - m' : Nat) : Int) ∧ h'.get qn = .cells [some (.int .i64 nx)] 3 qn 0 false false true) ∧ h'.get qo = .cells [some (.bool true)] 4 qo 0 false false true ∧
            slot env' 0 = .func (.func 46) [] [.ptr (some (ql, 0)), .ptr (some (qo, 0)), .ptr (some (qn, 0))] ∧ slot env' 11 = v1 ∧ slot env' 12 = .int .i64 S.length ∧ slot env' 13 = .int .i64 ((S.length - m' : Nat) : Int)
          | ex => BlockQ 0 (BodyQ c51.results Q) ex env' h')) := by
      intro env2 h4 nx4 l1 l2 l3 l4 l5 s0 s11 s12 s13 s27
      refine WCode.condF (by simp [s27]) (WCode.skip ?_)
      simp
      refine WCode.region ?_
      simp [c51_r5, l1, s13]
      refine ⟨m, by omega, by omega, l2, ⟨nx4, by omega, l4⟩, l5, s0, s11, s12, ?_⟩
      rw [wrap_i64 (by omega) (by omega)]; omega
    cases y2' with
    | false =>
      simp [c51_r4, hlen, y1]
      exact fin _ h3 nx (by simp [hlen]) kk3 (by omega) gn3 go3 (by simp [hlen, e0]) (by simp [hlen, e11]) (by simp [hlen, e12]) (by simp [hlen, e13]) (by simp [hlen])
    | true =>
      simp [c51_r4, hlen, e0, y0, y1]
      refine yield46 hw3 hl hy hnx gl3 go3 gn3 hne fun h4 go4 gn4 k4 => ?_
      simp [hlen]
      exact fin _ h4 _ (by simp [hlen]) (kk3.trans k4 (by simp) (by simp)) (by omega) gn4 go4 (by simp [hlen, e0]) (by simp [hlen, e11]) (by simp [hlen, e12]) (by simp [hlen, e13]) (by simp [hlen])

theorem many_mono {S : List (Int × Bool)} (k : Nat) : many (S.take k) ≤ many S := by
  have : S = S.take k ++ S.drop k := (List.take_append_drop k S).symm
  conv => rhs; rw [this]
  simp only [many, List.countP_append]; omega

/-- The iterator, left behind the second round. -/
theorem each47 {h : AH} {p ct : Nat} {S Ft} {qm : Nat} {Q : AV → AH → Prop} (ht : TableAt h p S Ft) (hl : S.length < 100000)
    (gc : h.get ct = .cells [some (.ptr (some (p, 0)))] 33 ct 0 false false true) (gm : h.get qm = .cells [some (.int .i64 0)] 3 qm 0 false false true)
    (q : ∀ h', h'.get qm = .cells [some (.int .i64 (min 2 (many S) : Nat))] 3 qm 0 false false true → Keep h h' [qm] → Q (.tuple []) h') :
    WCall E0 (.fn 51) [.func (.func 47) [] [.ptr (some (qm, 0))], .ptr (some (ct, 0))] h Q := by
  obtain ⟨vt, gt, hts⟩ := ht.is
  refine call0 F51 (WCode.seq (WCode.seq (WCode.region ?_)))
  simp [c51, c51_r0, cell1_of gc]
  refine WCode.condF (by simp) (WCode.skip ?_)
  simp
  refine WCode.seq (WCode.region ?_)
  simp [c51_r1, cell1_of gc, cell1_of gt]
  refine clone52 hts hl fun v1 h1 F1 hs1 k1 hF1 => ?_
  simp [hs1.lenV]
  have gm1 := k1.cells gm (cells_lt gm) (by simp)
  have kn : h.next ≤ h1.next := k1.next
  have lm' := cells_lt gm
  refine WCode.block (WCode.loop (Inv := fun m env h' => m ≤ S.length ∧ env.length = 29 ∧ Keep h1 h' [qm] ∧ many (S.take (S.length - m)) < 2 ∧ h'.get qm = .cells [some (.int .i64 ((many (S.take (S.length - m)) : Nat) : Int))] 3 qm 0 false false true ∧
    slot env 0 = .func (.func 47) [] [.ptr (some (qm, 0))] ∧ slot env 11 = v1 ∧ slot env 12 = .int .i64 S.length ∧ slot env 13 = .int .i64 ((S.length - m : Nat) : Int)) ?_ S.length _ _ ⟨Nat.le_refl _, rfl, Keep.refl _ _, by simp [many], by simpa [many] using gm1, rfl, rfl, rfl, by simp [slot_zero, slot_succ]⟩)
  rintro m env h2 ⟨hm, hlen, k2, hlt2, gm2, e0, e11, e12, e13⟩
  refine WCode.seq (WCode.region ?_)
  simp [c51_r2, hlen, e12, e13]
  cases m with
  | zero =>
    refine WCode.seq (WCode.condF (by simp [hlen]) (WCode.exit ?_))
    simp
    simp at hlt2 gm2
    exact q h2 (by rw [show min 2 (many S) = many S by omega]; exact gm2) (k1.trans k2 (by simp) (by simp))
  | succ m =>
    refine WCode.seq (WCode.condT (by simp [hlen]; omega) (WCode.skip ?_))
    simp
    obtain ⟨y, hy⟩ : ∃ y, S[S.length - (m + 1)]? = some y := ⟨S[S.length - (m + 1)]'(by omega), List.getElem?_eq_getElem (by omega)⟩
    have hF1' : h.next ≤ F1 := by
      rcases hF1 with e | e
      · subst e; simp at hm
      · exact e
    have ht := many_take hy
    have hmm := many_mono (S := S) (S.length - m)
    rw [show S.length - (m + 1) + 1 = S.length - m by omega] at ht
    obtain ⟨b, o, hidx, hr⟩ := rows_keep hs1 k2 (by simp; omega) hy
    refine WCode.seq (WCode.block (WCode.seq (WCode.region ?_)))
    simp [c51_r3, hlen, e11, e13, hidx, hr.row hy]
    refine BQ.of (store_new (by rfl) (by rfl) (by rfl)) ?_
    have k3 := Keep.row h2 (slotC y) 93 true []
    have kk3 : Keep h1 (h2.row (slotC y) 93 true) [qm] := k2.trans k3 (by simp) (by simp)
    have gm3 := k3.cells gm2 (by have := k2.next; omega) (by simp)
    obtain ⟨y1', y2'⟩ := y
    have y0 : cell1 (h2.row (slotC (y1', y2')) 93 true) h2.next 0 = some (.int .i64 y1') := cell1_row _ _ _ _ _
    have y1 : cell1 (h2.row (slotC (y1', y2')) 93 true) h2.next 1 = some (.bool y2') := cell1_row _ _ _ _ _
    simp [hlen, e13]
    generalize (h2.row (slotC (y1', y2')) 93 true) = h3 at *
    refine WCode.seq (WCode.region ?_)
    have fin : ∀ (env2 : List AV) (h4 : AH), env2.length = 29 → Keep h1 h4 [qm] → many (S.take (S.length - m)) < 2 → h4.get qm = .cells [some (.int .i64 ((many (S.take (S.length - m)) : Nat) : Int))] 3 qm 0 false false true →
        slot env2 0 = .func (.func 47) [] [.ptr (some (qm, 0))] → slot env2 11 = v1 → slot env2 12 = .int .i64 S.length → slot env2 13 = .int .i64 ((S.length - (m + 1) : Nat) : Int) → slot env2 27 = .bool false →
        WCode E0 false (.cond (.tmp 27) .ret .skip) env2 h4 (BlockQ 1 (SeqQ E0 false (.region c51_r5 false) fun ex env' h' => match ex with
          | .normal => ∃ m', m' < m + 1 ∧ m' ≤ S.length ∧ env'.length = 29 ∧ Keep h1 h' [qm] ∧ many (S.take (S.length - m')) < 2 ∧ h'.get qm = .cells [some (.int .i64 ((many (S.take (S.length - m')) : Nat) : Int))] 3 qm 0 false false true ∧
            slot env' 0 = .func (.func 47) [] [.ptr (some (qm, 0))] ∧ slot env' 11 = v1 ∧ slot env' 12 = .int .i64 S.length ∧ slot env' 13 = .int .i64 ((S.length - m' : Nat) : Int)
          | ex => BlockQ 0 (BodyQ c51.results Q) ex env' h')) := by
      intro env2 h4 l1 l2 l3 l4 s0 s11 s12 s13 s27
      refine WCode.condF (by simp [s27]) (WCode.skip ?_)
      simp
      refine WCode.region ?_
      simp [c51_r5, l1, s13]
      refine ⟨m, by omega, by omega, l2, l3, l4, s0, s11, s12, ?_⟩
      rw [wrap_i64 (by omega) (by omega)]; omega
    cases y2' with
    | false =>
      simp at ht
      simp [c51_r4, hlen, y1]
      exact fin _ h3 (by simp [hlen]) kk3 (by omega) (by rw [ht]; exact gm3) (by simp [hlen, e0]) (by simp [hlen, e11]) (by simp [hlen, e12]) (by simp [hlen, e13]) (by simp [hlen])
    | true =>
      simp at ht
      simp [c51_r4, hlen, e0, y0, y1]
      refine yield47 (by omega) (by omega) gm3 fun h4 gm4 k4 => ?_
      have gm4' : h4.get qm = .cells [some (.int .i64 ((many (S.take (S.length - m)) : Nat) : Int))] 3 qm 0 false false true := by rw [gm4, ht]; rfl
      by_cases hd : ((many (S.take (S.length - (m + 1))) : Nat) : Int) + 1 < 2
      · simp [hlen, hd]
        exact fin _ h4 (by simp [hlen]) (kk3.trans k4 (by simp) (by simp)) (by omega) gm4' (by simp [hlen, e0]) (by simp [hlen, e11]) (by simp [hlen, e12]) (by simp [hlen, e13]) (by simp [hlen])
      · simp [hlen, hd]
        refine WCode.condT (by simp [hlen]) (WCode.ret ?_)
        simp
        exact q h4 (by rw [gm4', show many (S.take (S.length - m)) = min 2 (many S) by omega]) (k1.trans (kk3.trans k4 (U := [qm]) (by simp) (by simp)) (by simp) (by simp))

theorem same22 {h : AH} {p : Nat} {w : AV} {S Ft Fw} {Q : AV → AH → Prop} (ht : TableAt h p S Ft) (hs : IsSl h w 91 2 slotC S Fw) (hl : S.length < 100000) (q : ∀ h', Keep h h' [] → Q (.bool true) h') :
    WCall E0 (.fn 22) [.ptr (some (p, 0)), w] h Q := by
  obtain ⟨aw, cw, ew, hw⟩ := hs.slice
  refine call0 F22 (WCode.seq (WCode.region ?_))
  have hb : boxV 1 w = some [w] := by rw [hw]; simp [boxV]
  simp [c22, c22_r0, hb]
  have k1 := Keep.row h [w] 35 true []
  have g3 := get_row_new h [w] 35 true h.next rfl
  have ht1 := ht.keep k1 (by simp) (by simp)
  have hs1 := hs.keep k1 (by simp)
  have hn1 : (h.row [w] 35 true).next = h.next + 1 := rfl
  have hpl := ht.lt
  have hwl := hs.lt
  generalize (h.row [w] 35 true) = h1 at *
  have c3 := cell1_of g3 0
  simp only [List.map_cons, List.map_nil, List.getElem?_cons_zero] at c3 g3
  have hm := many_le S
  refine WCode.seq (WCode.seq (WCode.draw ?_))
  simp [c22_r1]
  refine len31 ht1 ?_
  simp [c3]
  refine len45 hs1 hl ?_
  simp
  refine room32 ht1 hl ?_
  simp [c3, hs1.lenV]
  refine len45 hs1 hl ?_
  simp
  rw [wrap_i64 (by omega) (by omega), ← Int.ofNat_sub hm]
  simp
  refine ⟨⟨chk_mem fun hh hm => ?_, chk_mem fun hh hm => ?_, chk_mem fun hh hm => ?_⟩, ?_⟩
  · simp at hm; subst hm; simp [c3]
  · simp at hm; subst hm; simp [c3]
  · simp at hm; subst hm; simp [c3]
  refine WCode.condF (by simp) (WCode.skip ?_)
  simp
  -- the two variables of the first closure
  have kA := Keep.row h1 [.int .i64 0] 3 true []
  have kB := Keep.row (h1.row [.int .i64 0] 3 true) [.bool false] 4 true []
  have kAB : Keep h1 ((h1.row [.int .i64 0] 3 true).row [.bool false] 4 true) [] := kA.trans kB (by simp) (by simp)
  have g5 : ((h1.row [.int .i64 0] 3 true).row [.bool false] 4 true).get h1.next = .cells [some (.int .i64 0)] 3 h1.next 0 false false true := (get_row_old _ _ _ _ _ (by simp)).trans (get_row_new h1 _ _ _ _ rfl)
  have g6 : ((h1.row [.int .i64 0] 3 true).row [.bool false] 4 true).get (h1.next + 1) = .cells [some (.bool false)] 4 (h1.next + 1) 0 false false true := get_row_new _ _ _ _ _ rfl
  have hn2 : ((h1.row [.int .i64 0] 3 true).row [.bool false] 4 true).next = h1.next + 2 := rfl
  refine WCode.seq (WCode.region ?_)
  simp [c22_r3]
  generalize ((h1.row [.int .i64 0] 3 true).row [.bool false] 4 true) = h2 at *
  refine BQ.of (storeV_one g5 ⟨rfl, rfl⟩) ?_
  have kC := Keep.set g5 (.cells [some (.int .i64 (-1))] 3 h1.next 0 false false true)
  have g5' := AH.get_set_same (i := h1.next) (show h2.get h1.next ≠ .dead by rw [g5]; simp) (.cells [some (.int .i64 (-1))] 3 h1.next 0 false false true)
  have g6' := kC.cells g6 (by omega) (by simp)
  have hn3 : (h2.set h1.next (.cells [some (.int .i64 (-1))] 3 h1.next 0 false false true)).next = h1.next + 2 := by simpa using hn2
  simp
  generalize (h2.set h1.next (.cells [some (.int .i64 (-1))] 3 h1.next 0 false false true)) = h3 at *
  refine BQ.of (storeV_one g6' ⟨rfl, rfl⟩) ?_
  have kD := Keep.set g6' (.cells [some (.bool true)] 4 (h1.next + 1) 0 false false true)
  have g6'' := AH.get_set_same (i := h1.next + 1) (show h3.get (h1.next + 1) ≠ .dead by rw [g6']; simp) (.cells [some (.bool true)] 4 (h1.next + 1) 0 false false true)
  have g5'' := kD.cells g5' (by omega) (by simp)
  have hn4 : (h3.set (h1.next + 1) (.cells [some (.bool true)] 4 (h1.next + 1) 0 false false true)).next = h1.next + 2 := by simpa using hn3
  simp
  generalize (h3.set (h1.next + 1) (.cells [some (.bool true)] 4 (h1.next + 1) 0 false false true)) = h4 at *
  have k14 : Keep h1 h4 [] := ((kAB.trans kC (U := []) (by simp) (by simp)).trans kD (U := []) (by simp) (by simp))
  -- the iterator
  refine WCode.seq (WCode.region ?_)
  simp [c22_r4]
  refine all29 fun h5 ct gc k45 hct => ?_
  simp
  refine WCode.seq (WCode.seq (WCode.region ?_))
  have hfe : ∀ h a b c, EqTy.eq h .func (.func a b c) .nilFunc = some false := fun _ _ _ _ => by simp [EqTy.eq, eqFunc]
  simp [c22_r5, hfe]
  refine WCode.condF (by simp) (WCode.skip ?_)
  simp
  have k15 : Keep h1 h5 [] := k14.trans k45 (by simp) (by simp)
  have hn5 := k45.next
  refine WCode.seq (WCode.region ?_)
  simp [c22_r7]
  refine each46 (ht1.keep k15 (by simp) (by simp)) (hs1.keep k15 (by simp)) hl gc (k15.cells g3 (by omega) (by simp)) (k45.cells g6'' (by omega) (by simp)) (k45.cells g5'' (by omega) (by simp)) (by omega) (by omega) (by omega) (by omega) (by omega) fun h6 g66 k56 => ?_
  simp
  have k16 : Keep h1 h6 [] := k15.trans k56 (by simp) (by simp)
  have hn6 := k56.next
  -- the second closure's variable
  refine WCode.seq (WCode.region ?_)
  simp [c22_r8]
  refine BQ.of (store_new (by rfl) (by rfl) (by rfl)) ?_
  have k67 := Keep.row h6 [.int .i64 0] 3 true []
  have g8 := get_row_new h6 [.int .i64 0] 3 true h6.next rfl
  have hn7 : (h6.row [.int .i64 0] 3 true).next = h6.next + 1 := rfl
  have k17 : Keep h1 (h6.row [.int .i64 0] 3 true) [] := k16.trans k67 (by simp) (by simp)
  have gc7 := k67.cells (k56.cells gc (cells_lt gc) (by simp; omega)) (by have := cells_lt gc; omega) (by simp)
  have g67 := k67.cells g66 (by omega) (by simp)
  simp
  generalize (h6.row [.int .i64 0] 3 true) = h7 at *
  refine WCode.seq (WCode.region ?_)
  simp [c22_r9]
  refine each47 (ht1.keep k17 (by simp) (by simp)) hl gc7 g8 fun h8 g88 k78 => ?_
  simp
  have hn8 := k78.next
  have k18 : Keep h1 h8 [] := k17.trans k78 (by simp) (by simp; omega)
  have c6 := cell1_of (k78.cells g67 (by omega) (by simp; omega)) 0
  have c8 := cell1_of g88 0
  have c38 := cell1_of (k18.cells g3 (by omega) (by simp)) 0
  simp only [List.getElem?_cons_zero] at c6 c8 c38
  refine WCode.seq (WCode.draw ?_)
  simp [c22_r10, c6, c8, c38]
  refine len45 (hs1.keep k18 (by simp)) hl ?_
  have hmm : (if ((many S : Nat) : Int) < 2 then ((many S : Nat) : Int) else 2) = ((min 2 (many S) : Nat) : Int) := by split <;> omega
  simp [c8, hmm]
  refine ⟨⟨chk_mem fun hh hm => ?_, chk_mem fun hh hm => ?_, chk_mem fun hh hm => ?_⟩, ?_⟩
  · simp at hm; subst hm; simp [c38]
  · simp at hm; subst hm; simp [c8]
  · simp at hm; subst hm; simp [c6]
  refine WCode.ret ?_
  simp
  exact q h8 (k1.trans k18 (by simp) (by simp))
end Go.Proofs.Ytkbekibljcdbjaa.Ax
