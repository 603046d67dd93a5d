/- What the functions of the pool do, by the evaluator. Conditions: as each theorem states. -/
import Derived.Test.YtkbekibljcdbjaaC1
import Derived.Test.YtkbekibljcdbjaaAx23
namespace Go.Proofs.Ytkbekibljcdbjaa.Ax
open Go
set_option linter.unusedVariables false
set_option linter.unusedSimpArgs false
noncomputable abbrev E0 : Pg := ⟨funcsOf Try.prog [], noSum, noMt⟩

theorem call0 {f : FuncId} {fn : AFn} {args : List AV} {h : AH} {Q : AV → AH → Prop} (hF : funcsOf Try.prog [] f = some fn) (hw : WCode E0 false fn.body (args ++ List.replicate (fn.ntmps - args.length) .undef) h (BodyQ fn.results Q)) : WCall E0 (.fn f) args h Q :=
  WCall.fn (E := E0) rfl hF hw

def entC (x : Int × Int) : List AV := [.int .i64 x.1, .int .i64 x.2]

structure PoolAt (h : AH) (p : Nat) (L : List (Int × Int)) (F : Nat) : Prop where
  ne : F ≠ p
  is : ∃ v, h.get p = .cells [some v] 51 p 0 false false true ∧ IsSl h v 96 2 entC L F

theorem PoolAt.lt {h : AH} {p : Nat} {L F} (hp : PoolAt h p L F) : p < h.next := by
  obtain ⟨v, h1, h2⟩ := hp.is
  exact cells_lt h1

theorem PoolAt.keep {h h' : AH} {p : Nat} {L F S} (hp : PoolAt h p L F) (k : Keep h h' S) (h1 : p ∉ S) (h2 : F ∉ S) : PoolAt h' p L F := by
  obtain ⟨v, a, b⟩ := hp.is
  exact ⟨hp.ne, v, k.cells a hp.lt h1, b.keep k h2⟩

theorem len27 {h : AH} {p : Nat} {L F} {Q : AV → AH → Prop} (hp : PoolAt h p L F) (q : Q (.int .i64 L.length) h) : WCall E0 (.fn 27) [.ptr (some (p, 0))] h Q := by
  obtain ⟨v, hg, hs⟩ := hp.is
  refine call0 F27 (WCode.seq (WCode.region ?_))
  simp [c27, c27_r0]
  refine WCode.seq (WCode.seq (WCode.region ?_))
  simp [c27_r1]
  refine WCode.condF (by simp) (WCode.skip ?_)
  simp
  refine WCode.seq (WCode.region ?_)
  simp [c27_r3, cell1_of hg, hs.lenV]
  refine WCode.ret ?_
  simp [resultsOf, resultOf, oneOrTuple]
  exact q

theorem put23 {h : AH} {p : Nat} {L F} {k x : Int} {Q : AV → AH → Prop} (hp : PoolAt h p L F) (hl : L.length < 100000) (q : ∀ h' F', PoolAt h' p (L ++ [(k, x)]) F' → Keep h h' [p, F] → (F' = F ∨ h.next ≤ F') → Q (.tuple []) h') :
    WCall E0 (.fn 23) [.ptr (some (p, 0)), .int .i64 k, .int .i64 x] h Q := by
  obtain ⟨v, hg, hs⟩ := hp.is
  refine call0 F23 (WCode.seq (WCode.region ?_))
  simp [c23, c23_r0]
  refine WCode.condT (by simp) (WCode.region ?_)
  simp [c23_r1, cell1_of hg]
  obtain ⟨v', h1, F', ha, hs', hk, hF⟩ := (hs.keep (Keep.row h (entC (k, x)) 96 true []) (by simp)).append (bytes := 16) (M := [(k, x)]) ((IsSl.one h 96 hs.len hs.flat (k, x)).taken) (by simp [room, maxText]; omega)
  refine BQ.of ha ?_
  have k1 : Keep h h1 [F] := (Keep.row h _ 96 true []).trans hk (by simp) (by simp)
  have hg1 := k1.cells hg hp.lt (by simp; exact fun e => hp.ne e.symm)
  simp
  refine BQ.of (storeV_one hg1 hs'.cells1) ?_
  have k2 := Keep.set hg1 (.cells [some v'] 51 p 0 false false true)
  simp
  have hF' : F' ≠ p := by rcases hF with rfl | rfl; exact hp.ne; have := hp.lt; simp; omega
  refine q _ F' ⟨hF', v', AH.get_set_same (by rw [hg1]; simp) _, hs'.keep k2 (by simpa using hF')⟩ (k1.trans k2 (by simp) (by simp)) ?_
  rcases hF with rfl | rfl
  · exact .inl rfl
  · exact .inr (by simp)

theorem clone59 {h : AH} {v : AV} {L : List (Int × Int)} {F} {Q : AV → AH → Prop} (hs : IsSl h v 96 2 entC L F) (hl : L.length < 100000) (hne : L ≠ []) (q : ∀ v' h' F', IsSl h' v' 96 2 entC L F' → Keep h h' [] → h.next ≤ F' → Q v' h') :
    WCall E0 (.fn 59) [v] h Q := by
  refine call0 F59 (WCode.seq (WCode.region ?_))
  simp [c59, c59_r0]
  refine WCode.seq (WCode.seq (WCode.region ?_))
  have hv : EqTy.eq h .slice v (.slice none 0 0 0) = some false := by
    rcases hs.is with ⟨rfl, _⟩ | ⟨b, o, c, row, base, sh, pl, rfl, _⟩
    · exact absurd rfl hne
    · simp
  simp [c59_r1, hv]
  refine WCode.condF (by simp) (WCode.skip ?_)
  simp
  refine WCode.seq (WCode.region ?_)
  simp [c59_r3]
  have h0 : IsSl (h.row [] 96 true) (.slice (some (h.next, 0)) 0 0 2) 96 2 entC [] h.next := IsSl.row (L := []) h 96 hs.len hs.flat rfl 0 (by simp) rfl
  obtain ⟨v', h1, F', ha, hs', hk, hF⟩ := h0.append (bytes := 16) (M := L) ((hs.keep (Keep.row h [] 96 true []) (by simp)).taken) (by simp [room, maxText]; omega)
  refine BQ.of ha ?_
  simp
  refine WCode.ret ?_
  simp
  exact q v' h1 F' hs' ((Keep.row h _ 96 true []).trans hk (by simp) (by simp)) (by rcases hF with rfl | rfl <;> simp)

theorem entC_len (x : Int × Int) : (entC x).length = 2 := rfl
theorem entC_flat (x : Int × Int) : (entC x).all flat = true := rfl

theorem delete58 {h : AH} {v : AV} {L : List (Int × Int)} {F} {i : Nat} {Q : AV → AH → Prop} (hs : IsSl h v 96 2 entC L F) (hl : L.length < 100000) (hi : i < L.length) (q : ∀ v' h', IsSl h' v' 96 2 entC (L.eraseIdx i) F → Keep h h' [F] → Q v' h') :
    WCall E0 (.fn 58) [v, .int .i64 i, .int .i64 ((i : Int) + 1)] h Q := by
  refine call0 F58 ?_
  refine WCode.seq (WCode.region ?_)
  simp [c58, c58_r0]
  refine WCode.seq (WCode.region ?_)
  obtain ⟨u, hu, _⟩ := hs.sub i (i + 1) (by omega) (by omega) (some (.int .i64 L.length)) (.inr rfl) (some (.int .i64 i)) (some (.int .i64 ((i : Int) + 1))) (.inl rfl) (.inl rfl)
  simp [c58_r1, hs.lenV, hu]
  refine WCode.seq (WCode.seq (WCode.region ?_))
  simp [c58_r2]
  refine WCode.condF (by simp; omega) (WCode.skip ?_)
  simp
  refine WCode.seq (WCode.region ?_)
  simp [c58_r4, hs.lenV]
  refine WCode.seq (WCode.draw ?_)
  rcases hs.is with ⟨rfl, _⟩ | ⟨b, o, c, row, base, sh, pl, rfl, k2, k3, k4⟩
  · simp at hi
  have hA : sliceV 2 (.slice (some (b, o)) L.length c 2) none (some (.int .i64 i)) none = some (.slice (some (b, o)) i c 2) := by
    rw [sliceV_eq (.inl ⟨rfl, rfl⟩) (.inr ⟨_, rfl⟩) (Nat.zero_le i) (by omega)]; simp
  have hB : sliceV 2 (.slice (some (b, o)) L.length c 2) (some (.int .i64 ((i : Int) + 1))) none none = some (.slice (some (b, o + (i + 1) * 2)) (L.length - (i + 1)) (c - (i + 1)) 2) := by
    exact sliceV_eq (l := i + 1) (.inr ⟨_, rfl⟩) (.inl ⟨rfl, rfl⟩) (by omega) k2
  have hm : h.cellsAt (b, o + (i + 1) * 2) ((L.length - (i + 1)) * 2) = some ((L.drop (i + 1)).flatMap entC) := by
    rw [cellsAt_sub k4 ((i + 1) * 2) ((L.length - (i + 1)) * 2) (by omega), flatMap_drop entC_len, List.take_of_length_le (by rw [flatMap_len entC_len]; simp)]
  have hL : L.length * 2 = (L.flatMap entC).length := (flatMap_len entC_len L).symm
  have hap : ∃ h1 row1 rest, appendV h 96 2 16 (.slice (some (b, o)) i c 2) (.slice (some (b, o + (i + 1) * 2)) (L.length - (i + 1)) (c - (i + 1)) 2) = some (.slice (some (b, o)) (L.length - 1) c 2, h1) ∧ h1.get b = .cells row1 96 F base sh false pl ∧ rest.length = 2 ∧ h1.cellsAt (b, o) (L.length * 2) = some ((L.eraseIdx i).flatMap entC ++ rest) ∧ Keep h h1 [F] ∧ h1.next = h.next := by
    have he : (L.eraseIdx i).flatMap entC = (L.take i).flatMap entC ++ (L.drop (i + 1)).flatMap entC := by rw [List.eraseIdx_eq_take_drop_succ, List.flatMap_append]
    simp only [appendV_slice, taken, if_true, hm, Option.map, Option.bind, appendTo]
    by_cases h0 : L.length - (i + 1) = 0
    · rw [if_pos h0]
      refine ⟨h, row, (L.flatMap entC).drop (i * 2), by rw [show L.length - 1 = i by omega], k3, by simp [flatMap_len entC_len]; omega, ?_, Keep.refl _ _, rfl⟩
      rw [k4, he, List.drop_eq_nil_of_le (by omega : L.length ≤ i + 1)]
      simp only [List.flatMap_nil, List.append_nil]
      rw [← flatMap_take entC_len, List.take_append_drop]
    · rw [if_neg h0, if_pos (by simp [room, maxText]; omega), if_pos (by omega)]
      have hlen : ((L.drop (i + 1)).flatMap entC).length = (L.length - (i + 1)) * 2 := by rw [flatMap_len entC_len]; simp
      obtain ⟨h1, row1, s1, s2, s3, s4, s5⟩ := store_cells k3 k4 (i * 2) ((L.drop (i + 1)).flatMap entC) (by omega) (flatMap_flat entC_flat _)
      refine ⟨h1, row1, (L.flatMap entC).drop (i * 2 + ((L.drop (i + 1)).flatMap entC).length), by simp only [s1]; rw [show i + (L.length - (i + 1)) = L.length - 1 by omega], s2, by rw [List.length_drop, flatMap_len entC_len, hlen]; omega, ?_, s5, s4⟩
      rw [s3, he, flatMap_take entC_len]
  obtain ⟨h1, row1, rest, a1, a2, a3, a4, a5, a6⟩ := hap
  simp [c58_r5, hA, hB]
  refine BQ.of a1 ?_
  simp
  have hC : bounds (L.length - 1) c (some (.int .i64 ((L.length - 1 : Nat) : Int))) (some (.int .i64 L.length)) none = some (L.length - 1, L.length, c) := bounds_eq (.inr ⟨_, rfl⟩) (.inr ⟨_, rfl⟩) (by omega) k2
  refine WCode.seq (WCode.region ?_)
  have e1 : L.length - (L.length - 1) = 1 := by omega
  simp [c58_r6, hC, e1]
  have hel : ((L.eraseIdx i).flatMap entC).length = (L.length - 1) * 2 := by rw [flatMap_len entC_len, List.length_eraseIdx, if_pos hi]
  obtain ⟨h2, row2, s1, s2, s3, s4, s5⟩ := store_cells a2 a4 ((L.length - 1) * 2) [.int .i64 0, .int .i64 0] (by simp; omega) rfl
  refine BQ.of s1 ?_
  refine WCode.seq (WCode.region ?_)
  simp [c58_r7]
  refine WCode.ret ?_
  simp
  refine q _ h2 ⟨by rw [s4, a6]; exact hs.lt, hs.len, hs.flat, .inr ⟨b, o, c, row2, base, sh, pl, by rw [List.length_eraseIdx, if_pos hi], by rw [List.length_eraseIdx, if_pos hi]; omega, s2, ?_⟩⟩ (a5.trans s5 (by simp) (by simp))
  rw [List.length_eraseIdx, if_pos hi]
  have := cellsAt_sub s3 0 ((L.length - 1) * 2) (by omega)
  rw [Nat.add_zero] at this
  rw [this]
  generalize (L.eraseIdx i).flatMap entC = X at hel ⊢
  simp [← hel]

theorem rows_keep {α : Type} {h h' : AH} {S : List Nat} {v : AV} {e es : Nat} {f : α → List AV} {L : List α} {F : Nat} (hs : IsSl h v e es f L F) (a : Keep h h' S) (hF : F ∉ S) {i : Nat} {x : α} (hx : L[i]? = some x) : ∃ b o, (∀ k, idxAddrV es v (.int k i) = some (.ptr (some (b, o + i * es)))) ∧ Rows h' b o es f L :=
  (hs.keep a hF).at hx

theorem out48 {h : AH} {p : Nat} {L F} {i : Nat} {x : Int × Int} {Q : AV → AH → Prop} (hp : PoolAt h p L F) (hl : L.length < 100000) (hx : L[i]? = some x) (q : ∀ h' F', PoolAt h' p (L.eraseIdx i) F' → Keep h h' [p] → h.next ≤ F' → Q (.agg (entC x)) h') :
    WCall E0 (.fn 48) [.ptr (some (p, 0)), .int .i64 i] h Q := by
  obtain ⟨v, hg, hs⟩ := hp.is
  have hi := (List.getElem?_eq_some_iff.1 hx).1
  refine call0 F48 (WCode.seq (WCode.region ?_))
  simp [c48, c48_r0]
  have k1 := Keep.row h [.int .i64 0, .int .i64 0] 96 true []
  obtain ⟨b, o, hidx, hr⟩ := rows_keep hs k1 (by simp) hx
  have hg1 := k1.cells hg hp.lt (by simp)
  refine WCode.seq (WCode.region ?_)
  simp [c48_r1, cell1_of hg1, hidx, hr.row hx]
  refine BQ.of (store_new (by rfl) (by rfl) (by rfl)) ?_
  try simp
  have k2 : Keep h ((h.row [.int .i64 0, .int .i64 0] 96 true).row (entC x) 96 true) [] := k1.trans (Keep.row _ _ _ _ []) (by simp) (by simp)
  have hg2 := k2.cells hg hp.lt (by simp)
  refine WCode.seq (WCode.region ?_)
  simp [c48_r2, cell1_of hg2]
  refine clone59 (hs.keep k2 (by simp)) hl (by intro e; simp [e] at hi) fun v1 h1 F1 hs1 k3 hF1 => ?_
  try simp
  rw [show IntKind.i64.wrap ((i : Int) + 1) = (i : Int) + 1 from wrap_i64 (by omega) (by omega)]
  refine delete58 hs1 hl hi fun v2 h2 hs2 k4 => ?_
  simp at hF1
  have k5 : Keep ((h.row [.int .i64 0, .int .i64 0] 96 true).row (entC x) 96 true) h2 [] := k3.trans k4 (by simp) (by simp; omega)
  have k6 : Keep h h2 [] := k2.trans k5 (by simp) (by simp)
  have hg3 := k6.cells hg hp.lt (by simp)
  try simp
  refine BQ.of (storeV_one hg3 hs2.cells1) ?_
  have k7 := Keep.set hg3 (.cells [some v2] 51 p 0 false false true)
  try simp
  have hlt := hp.lt
  have k8 : Keep ((h.row [.int .i64 0, .int .i64 0] 96 true).row (entC x) 96 true) (h2.set p (.cells [some v2] 51 p 0 false false true)) [p] := k5.trans k7 (by simp) (by simp)
  have g5 := k8.cells (get_row_new (h.row [.int .i64 0, .int .i64 0] 96 true) (entC x) 96 true (h.next + 1) (by simp)) (by simp) (by simp; omega)
  have g4 := k8.cells ((get_row_old (h.row [.int .i64 0, .int .i64 0] 96 true) (entC x) 96 true h.next (by simp)).trans (get_row_new h [.int .i64 0, .int .i64 0] 96 true h.next (by simp))) (by simp; omega) (by simp; omega)
  have hc : (h2.set p (.cells [some v2] 51 p 0 false false true)).cellsAt (h.next + 1, 0) 2 = some (entC x) := (cellsAt_iff g5).2 ⟨rfl, fun j v hj => by rw [Nat.zero_add, List.getElem?_map, hj]; rfl⟩
  refine WCode.seq (WCode.region ?_)
  simp [c48_r3, hc]
  refine BQ.of (storeV_alone (x := .agg (entC x)) (row' := (entC x).map some) g4 rfl rfl rfl) ?_
  have k9 := Keep.set g4 (.cells ((entC x).map some) 96 h.next 0 false false true)
  have g4' := AH.get_set_same (i := h.next) (show (h2.set p (.cells [some v2] 51 p 0 false false true)).get h.next ≠ .dead by rw [g4]; simp) (.cells ((entC x).map some) 96 h.next 0 false false true)
  have hc4 := (cellsAt_iff (o := 0) (n := 2) (vs := entC x) g4').2 ⟨rfl, fun j v hj => by rw [Nat.zero_add, List.getElem?_map, hj]; rfl⟩
  refine WCode.ret ?_
  simp [hc4]
  have kp : Keep h (h2.set p (.cells [some v2] 51 p 0 false false true)) [p] := k6.trans k7 (by simp) (by simp)
  have hne : F1 ≠ p := by omega
  refine q _ F1 ⟨hne, v2, k9.cells (AH.get_set_same (by rw [hg3]; simp) _) (by have := kp.next; omega) (by simp; omega), (hs2.keep k7 (by simpa using hne)).keep k9 (by simp; omega)⟩ (kp.trans k9 (by simp) (by simp)) (by omega)

/-- The last place of a key, below m. -/
def findDown (L : List (Int × Int)) (k : Int) : Nat → Option Nat
  | 0 => none
  | m + 1 => if (L[m]?).map (·.1) = some k then some m else findDown L k m

theorem take24 {h : AH} {p : Nat} {L F} {k : Int} {Q : AV → AH → Prop} (hp : PoolAt h p L F) (hl : L.length < 100000)
    (q0 : findDown L k L.length = none → Q (.tuple [.int .i64 0, .bool false]) h)
    (q1 : ∀ i x, findDown L k L.length = some i → L[i]? = some x → ∀ h' F', PoolAt h' p (L.eraseIdx i) F' → Keep h h' [p] → h.next ≤ F' → Q (.tuple [.int .i64 x.2, .bool true]) h') :
    WCall E0 (.fn 24) [.ptr (some (p, 0)), .int .i64 k] h Q := by
  obtain ⟨v, hg, hs⟩ := hp.is
  refine call0 F24 (WCode.seq (WCode.region ?_))
  simp [c24, c24_r0]
  refine WCode.seq (WCode.seq (WCode.region ?_))
  simp [c24_r1]
  refine len27 hp ?_
  simp
  rw [show IntKind.i64.wrap ((L.length : Int) - 1) = (L.length : Int) - 1 from wrap_i64 (by omega) (by omega)]
  refine WCode.block (WCode.loop (Inv := fun m env h' => h' = h ∧ m ≤ L.length ∧ env.length = 29 ∧ slot env 0 = .ptr (some (p, 0)) ∧ slot env 1 = .int .i64 k ∧ slot env 4 = .int .i64 0 ∧ slot env 6 = .int .i64 ((m : Int) - 1) ∧ findDown L k L.length = findDown L k m) ?_ L.length _ _ ⟨rfl, Nat.le_refl _, rfl, rfl, rfl, rfl, rfl, rfl⟩)
  rintro m env h' ⟨rfl, hm, hlen, e0, e1, e4, e6, hfd⟩
  refine WCode.seq (WCode.seq (WCode.region ?_))
  simp [c24_r2, e6, hlen]
  cases m with
  | zero =>
    refine WCode.condF (by simp [hlen]) (WCode.exit ?_)
    simp
    refine WCode.seq (WCode.region ?_)
    simp [c24_r7, hlen, e4]
    refine WCode.ret ?_
    simp [hlen]
    exact q0 (by rw [hfd]; rfl)
  | succ m =>
    refine WCode.condT (by simp [hlen]; omega) (WCode.skip ?_)
    simp
    obtain ⟨x, hx⟩ : ∃ x, L[m]? = some x := ⟨L[m]'(by omega), List.getElem?_eq_getElem (by omega)⟩
    obtain ⟨b, o, hidx, hr⟩ := hs.at hx
    have ee : ((m : Int) + 1 - 1) = (m : Int) := by omega
    refine WCode.seq (WCode.block (WCode.seq (WCode.region ?_)))
    simp [c24_r3, hlen, e0, e1, e6, cell1_of hg, ee, hidx, hr.cell0 hx, entC]
    by_cases hk : x.1 = k
    · refine WCode.condT (by simp [hlen, hk]) ?_
      refine WCode.seq (WCode.region ?_)
      simp [c24_r4, hlen, e0, e1, e6, ee]
      refine out48 hp hl hx fun h1 F1 hp1 hk1 hF1 => ?_
      simp [hlen, entC]
      refine WCode.ret ?_
      simp [hlen]
      exact q1 m x (by rw [hfd]; simp [findDown, hx, hk]) hx h1 F1 hp1 hk1 hF1
    · refine WCode.condF (by simp [hlen, hk]) (WCode.skip ?_)
      simp
      refine WCode.region ?_
      simp [c24_r5, hlen, e6, ee]
      exact ⟨m, by omega, by omega, e0, e1, e4, by rw [wrap_i64 (by omega) (by omega)], by rw [hfd]; simp [findDown, hx, hk]⟩

theorem take25 {h : AH} {v : AV} {L : List (Int × Int)} {F} {k : Int} {Q : AV → AH → Prop} (hs : IsSl h v 55 2 entC L F) (hl : L.length < 100000)
    (q0 : findDown L k L.length = none → Q (.tuple [v, .int .i64 0, .bool false]) h)
    (q1 : ∀ i x, findDown L k L.length = some i → L[i]? = some x → ∀ v' h' F', IsSl h' v' 55 2 entC (L.eraseIdx i) F' → Keep h h' [] → h.next ≤ F' → Q (.tuple [v', .int .i64 x.2, .bool true]) h') :
    WCall E0 (.fn 25) [v, .int .i64 k] h Q := by
  refine call0 F25 (WCode.seq (WCode.region ?_))
  simp [c25, c25_r0]
  refine WCode.seq (WCode.seq (WCode.region ?_))
  simp [c25_r1, hs.lenV]
  rw [show IntKind.i64.wrap ((L.length : Int) - 1) = (L.length : Int) - 1 from wrap_i64 (by omega) (by omega)]
  refine WCode.block (WCode.loop (Inv := fun m env h' => h' = h ∧ m ≤ L.length ∧ env.length = 38 ∧ slot env 0 = v ∧ slot env 1 = .int .i64 k ∧ slot env 7 = .int .i64 ((m : Int) - 1) ∧ findDown L k L.length = findDown L k m) ?_ L.length _ _ ⟨rfl, Nat.le_refl _, rfl, rfl, rfl, rfl, rfl⟩)
  rintro m env h' ⟨rfl, hm, hlen, e0, e1, e7, hfd⟩
  refine WCode.seq (WCode.seq (WCode.region ?_))
  simp [c25_r2, e7, hlen]
  cases m with
  | zero =>
    refine WCode.condF (by simp [hlen]) (WCode.exit ?_)
    simp
    refine WCode.seq (WCode.region ?_)
    simp [c25_r7, hlen, e0]
    refine WCode.ret ?_
    simp [hlen]
    exact q0 (by rw [hfd]; rfl)
  | succ m =>
    refine WCode.condT (by simp [hlen]; omega) (WCode.skip ?_)
    simp
    obtain ⟨x, hx⟩ : ∃ x, L[m]? = some x := ⟨L[m]'(by omega), List.getElem?_eq_getElem (by omega)⟩
    obtain ⟨b, o, hidx, hr⟩ := hs.at hx
    have ee : ((m : Int) + 1 - 1) = (m : Int) := by omega
    refine WCode.seq (WCode.block (WCode.seq (WCode.region ?_)))
    simp [c25_r3, hlen, e0, e1, e7, ee, hidx, hr.cell0 hx, entC]
    by_cases hk : x.1 = k
    · refine WCode.condT (by simp [hlen, hk]) ?_
      refine WCode.seq (WCode.draw ?_)
      have hi := (List.getElem?_eq_some_iff.1 hx).1
      obtain ⟨sA, hA, hAs⟩ := hs.sub 0 m (by omega) (by omega) none (.inl rfl) none (some (.int .i64 m)) (.inr ⟨rfl, rfl⟩) (.inl rfl)
      obtain ⟨sB, hB, hBs⟩ := hs.sub (m + 1) L.length (by omega) (by omega) none (.inl rfl) (some (.int .i64 ((m : Int) + 1))) none (.inl rfl) (.inr ⟨rfl, rfl, rfl⟩)
      have hw : IntKind.i64.wrap ((m : Int) + 1) = (m : Int) + 1 := wrap_i64 (by omega) (by omega)
      simp [c25_r4, hlen, e0, e1, e7, ee, hA, hB, hw, hidx]
      have h0 : IsSl (h'.row [] 55 true) (.slice (some (h'.next, 0)) 0 0 2) 55 2 entC [] h'.next := IsSl.row (L := []) h' 55 hs.len hs.flat rfl 0 (by simp) rfl
      have k0 := Keep.row h' [] 55 true []
      obtain ⟨v1, h1, F1, ha, hs1, hk1, hF1⟩ := h0.append (bytes := 16) ((hAs.keep k0 (by simp)).taken) (by simp [room, maxText]; omega)
      refine BQ.of ha ?_
      have k1 : Keep h' h1 [] := k0.trans hk1 (by simp) (by simp)
      obtain ⟨v2, h2, F2, hb, hs2, hk2, hF2⟩ := hs1.append (bytes := 16) ((hBs.keep k1 (by simp)).taken) (by simp [room, maxText]; omega)
      simp [hlen, e0, e1, e7, ee, hB, hw, hidx]
      refine BQ.of hb ?_
      simp at hF1
      have hF1' : h'.next ≤ F1 := by omega
      have hF2' : h'.next ≤ F2 := by have := k1.next; omega
      have k2 : Keep h' h2 [] := k1.trans hk2 (by simp) (by simp; omega)
      have hc : ∀ hh, hh ∈ [h', h'.row [] 55 true, h1, h2] → cell1 hh b (o + m * 2 + 1) = some (.int .i64 x.2) := by
        have key : ∀ {hh : AH}, Keep h' hh [] → cell1 hh b (o + m * 2 + 1) = some (.int .i64 x.2) := fun {hh} kk => by
          obtain ⟨b', o', hi', hr'⟩ := rows_keep hs kk (by simp) hx
          have e := hi' .i64
          rw [hidx] at e
          simp only [Option.some.injEq, AV.ptr.injEq, Prod.mk.injEq] at e
          obtain ⟨rfl, e⟩ := e
          have : o' = o := by omega
          subst this
          rw [hr'.cell hx 1 (by omega)]; rfl
        intro hh hm
        simp only [List.mem_cons, List.not_mem_nil, or_false] at hm
        rcases hm with rfl | rfl | rfl | rfl
        · exact key (Keep.refl _ _)
        · exact key k0
        · exact key k1
        · exact key k2
      simp [hlen, e0, e7, ee, hidx]
      refine BQ.of (hc h2 (by simp)) ?_
      simp [hlen]
      refine ⟨chk_mem fun hh hm => ?_, ?_⟩
      · simp [hlen]
        exact hc hh (by simpa using hm)
      refine WCode.ret ?_
      simp [hlen]
      refine q1 m x (by rw [hfd]; simp [findDown, hx, hk]) hx v2 h2 F2 (hs2.mono ?_) k2 hF2'
      rw [List.eraseIdx_eq_take_drop_succ]; simp
      exact List.take_of_length_le (by simp)
    · refine WCode.condF (by simp [hlen, hk]) (WCode.skip ?_)
      simp
      refine WCode.region ?_
      simp [c25_r5, hlen, e7, ee]
      exact ⟨m, by omega, by omega, e0, e1, by rw [wrap_i64 (by omega) (by omega)], by rw [hfd]; simp [findDown, hx, hk]⟩

theorem old26 {h : AH} {p : Nat} {L F} {Q : AV → AH → Prop} (hp : PoolAt h p L F) (hl : L.length < 100000)
    (q0 : L = [] → Q (.tuple [.int .i64 0, .int .i64 0, .bool false]) h)
    (q1 : ∀ x L', L = x :: L' → ∀ h' F', PoolAt h' p L' F' → Keep h h' [p] → h.next ≤ F' → Q (.tuple [.int .i64 x.1, .int .i64 x.2, .bool true]) h') :
    WCall E0 (.fn 26) [.ptr (some (p, 0))] h Q := by
  refine call0 F26 (WCode.seq (WCode.region ?_))
  simp [c26, c26_r0]
  refine WCode.seq (WCode.seq (WCode.region ?_))
  simp [c26_r1]
  refine len27 hp ?_
  simp
  cases L with
  | nil =>
    refine WCode.condT (by simp) ?_
    refine WCode.seq (WCode.region ?_)
    simp [c26_r2]
    refine WCode.ret ?_
    simp
    exact q0 rfl
  | cons x L =>
    refine WCode.condF (by simp; omega) (WCode.skip ?_)
    simp
    refine WCode.seq (WCode.region ?_)
    simp [c26_r3]
    refine out48 (i := 0) (x := x) hp hl (by simp) fun h1 F1 hp1 hk1 hF1 => ?_
    try simp
    refine BQ.of (store_new (by rfl) (by rfl) (by rfl)) ?_
    have k2 := hk1.trans (Keep.row h1 (entC x) 96 true []) (U := [p]) (by simp) (by simp)
    have g := get_row_new h1 (entC x) 96 true h1.next rfl
    have c0 := cell1_of g 0
    have c1 := cell1_of g 1
    refine WCode.seq (WCode.draw ?_)
    simp [c26_r4]
    simp [entC] at c0 c1 ⊢
    simp [c0, c1]
    refine ⟨⟨chk_mem fun hh hm => ?_, chk_mem fun hh hm => ?_⟩, ?_⟩
    · simp at hm
      subst hm
      simp [c1]
    · simp at hm
      subst hm
      simp [c0]
    refine WCode.ret ?_
    simp
    exact q1 x L rfl _ F1 (hp1.keep (Keep.row h1 (entC x) 96 true []) (by simp) (by simp)) k2 (by omega)
end Go.Proofs.Ytkbekibljcdbjaa.Ax
