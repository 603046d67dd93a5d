/- config.bounds, config.Right: each returns. Conditions: as each theorem states. -/
import Derived.Test.YtjihmonajekomaaGreatDoorR4
namespace Go.Proofs.YtjihmonajekomaaGreatDoor.Ax
open Go
set_option linter.unusedVariables false
set_option linter.unusedSimpArgs false
variable {h : AH} {Q : AV → AH → Prop}
def bnds (p : Nat) : List AV := [.ptr (some (p, 2)), .int .i64 0, .int .i64 1, .ptr (some (p, 3)), .int .i64 0, .int .i64 1, .ptr (some (p, 4)), .int .i64 0, .int .i64 1, .ptr (some (p, 5)), .int .i64 0, .int .i64 1, .ptr (some (p, 6)), .int .i64 1, .int .i64 65536, .ptr (some (p, 7)), .int .i64 1, .int .i64 65536, .ptr (some (p, 8)), .int .i64 0, .int .i64 100, .ptr (some (p, 9)), .int .i64 0, .int .i64 1073741824, .ptr (some (p, 10)), .int .i64 1, .int .i64 16, .ptr (some (p, 11)), .int .i64 1, .int .i64 16, .ptr (some (p, 12)), .int .i64 0, .int .i64 1, .ptr (some (p, 13)), .int .i64 16, .int .i64 65536, .ptr (some (p, 14)), .int .i64 1, .int .i64 1000, .ptr (some (p, 15)), .int .i64 3, .int .i64 4096, .ptr (some (p, 16)), .int .i64 0, .int .i64 1048576, .ptr (some (p, 17)), .int .i64 0, .int .i64 1]
set_option maxRecDepth 8000 in
set_option maxHeartbeats 4000000 in
theorem bounds55 {p : Nat} (q : ∀ h', Keep h h' [] → Q (.agg (bnds p)) h') : WCall E2 (.fn 55) [.ptr (some (p, 0))] h Q := by
  refine call2 F55 rfl (WCode.seq (WCode.region ?_))
  simp [c55, c55_r0]
  refine WCode.seq (WCode.region ?_)
  simp [c55_r1]
  refine WCode.seq (WCode.draw ?_)
  simp [c55_r2, slot_mask]
  refine BQ.of (store_new (x := .agg (bnds p)) rfl rfl rfl) ?_
  have k1 := Keep.row h (bnds p) 96 true []
  have c1 : (h.row (bnds p) 96 true).cellsAt (h.next, 0) 48 = some (bnds p) := (cellsAt_iff (get_row_new h (bnds p) 96 true h.next rfl)).2 ⟨rfl, fun j v hj => by rw [Nat.zero_add, List.getElem?_map, hj]; rfl⟩
  have e1 : (AV.agg (bnds p)).cells = bnds p := rfl
  rw [e1]
  generalize (h.row (bnds p) 96 true) = h1 at *
  simp
  refine WCode.ret ?_
  simp [c1, resultsOf, resultOf]
  exact q _ k1

theorem bnds_part (p : Nat) {i : Nat} (hi : i < 16) : ∃ (k : Nat) (lo up : Int), 2 ≤ k ∧ k < 18 ∧ (i = 11 → k = 13 ∧ lo = 16 ∧ up = 65536) ∧ idxArrV 16 3 true (.agg (bnds p)) (.int .i64 i) = some (.agg [.ptr (some (p, k)), .int .i64 lo, .int .i64 up]) := by
  match i, hi with
  | 0, _ => exact ⟨2, 0, 1, by omega, by omega, by omega, rfl⟩
  | 1, _ => exact ⟨3, 0, 1, by omega, by omega, by omega, rfl⟩
  | 2, _ => exact ⟨4, 0, 1, by omega, by omega, by omega, rfl⟩
  | 3, _ => exact ⟨5, 0, 1, by omega, by omega, by omega, rfl⟩
  | 4, _ => exact ⟨6, 1, 65536, by omega, by omega, by omega, rfl⟩
  | 5, _ => exact ⟨7, 1, 65536, by omega, by omega, by omega, rfl⟩
  | 6, _ => exact ⟨8, 0, 100, by omega, by omega, by omega, rfl⟩
  | 7, _ => exact ⟨9, 0, 1073741824, by omega, by omega, by omega, rfl⟩
  | 8, _ => exact ⟨10, 1, 16, by omega, by omega, by omega, rfl⟩
  | 9, _ => exact ⟨11, 1, 16, by omega, by omega, by omega, rfl⟩
  | 10, _ => exact ⟨12, 0, 1, by omega, by omega, by omega, rfl⟩
  | 11, _ => exact ⟨13, 16, 65536, by omega, by omega, by omega, rfl⟩
  | 12, _ => exact ⟨14, 1, 1000, by omega, by omega, by omega, rfl⟩
  | 13, _ => exact ⟨15, 3, 4096, by omega, by omega, by omega, rfl⟩
  | 14, _ => exact ⟨16, 0, 1048576, by omega, by omega, by omega, rfl⟩
  | 15, _ => exact ⟨17, 0, 1, by omega, by omega, by omega, rfl⟩
  | n + 16, h => exact absurd h (by omega)

def cfg (nm au : List Nat) (ns : List Int) : AV := .agg (.str nm :: .str au :: ns.map (.int .i64))
theorem cfg_len {nm au : List Nat} {ns : List Int} (hn : ns.length = 16) : (cfg nm au ns).cells.length = 18 := by simp [cfg, AV.cells, hn]
theorem cfg_flat {nm au : List Nat} {ns : List Int} : (cfg nm au ns).cells.all flat = true := by
  simp [cfg, AV.cells, flat]

set_option maxRecDepth 4000 in
theorem right16 {nm au : List Nat} {ns : List Int} (hn : ns.length = 16) (hl1 : nm.length < 90000) (hl2 : au.length < 90000) {hd : Int} (hhd : ns[11]? = some hd) (q : ∀ r h', (r = 0 → 16 ≤ hd ∧ hd ≤ 65536) → Keep h h' [] → Q (.int .i64 r) h') : WCall E2 (.fn 16) [cfg nm au ns] h Q := by
  refine call2 F16 rfl (WCode.seq (WCode.region ?_))
  have hb : boxV 18 (cfg nm au ns) = some (cfg nm au ns).cells := by rw [boxV, if_pos ⟨cfg_len hn, cfg_flat⟩]
  simp [c16, c16_r0, hb]
  have hg0 := get_row_new h (cfg nm au ns).cells 25 true h.next rfl
  have k0 := Keep.row h (cfg nm au ns).cells 25 true []
  have hrow : ∀ i, 2 ≤ i → i < 18 → ∃ n : Int, ((cfg nm au ns).cells.map some)[i]? = some (some (.int .i64 n)) := by
    intro i h2 h3
    obtain ⟨i, rfl⟩ : ∃ k, i = k + 2 := ⟨i - 2, by omega⟩
    refine ⟨ns[i]'(by omega), ?_⟩
    simp [cfg, AV.cells, List.getElem?_eq_getElem (show i < ns.length by omega)]
  have hrow0 : ((cfg nm au ns).cells.map some)[0]? = some (some (.str nm)) := rfl
  have hrow1 : ((cfg nm au ns).cells.map some)[1]? = some (some (.str au)) := rfl
  have hrow13 : ((cfg nm au ns).cells.map some)[13]? = some (some (.int .i64 hd)) := by simp [cfg, AV.cells, hhd]
  generalize hc : cfg nm au ns = c at *
  generalize (h.row c.cells 25 true) = h0 at *
  generalize c.cells.map some = row at *
  clear hb hc hn
  have o0 : Own h0 h.next := Own.cells hg0
  have rd : ∀ h', h'.get h.next = .cells row 25 h.next 0 false false true → cell1 h' h.next 0 = some (.str nm) ∧ cell1 h' h.next 1 = some (.str au) ∧ ∀ i, 2 ≤ i → i < 18 → ∃ n : Int, cell1 h' h.next i = some (.int .i64 n) := by
    intro h' hg
    refine ⟨by rw [cell1_of hg, hrow0], by rw [cell1_of hg, hrow1], fun i h2 h3 => ?_⟩
    obtain ⟨n, hi⟩ := hrow i h2 h3
    exact ⟨n, by rw [cell1_of hg, hi]⟩
  refine WCode.seq (WCode.region ?_)
  simp [c16_r1, (rd _ hg0).2.1]
  refine key53 hl2 fun t ok h1 k1 => ?_
  simp
  have hg1 := (k1.own o0 (by simp)).trans hg0
  have k01 : Keep h h1 [] := k0.trans k1 (by simp) (by simp)
  clear hg0 o0 k0 k1 h0
  refine WCode.seq (WCode.block (WCode.seq (WCode.region ?_)))
  simp [c16_r2, (rd _ hg1).1]
  refine token54 fun b h2 k2 => ?_
  have hg2 := (k2.own (Own.cells hg1) (by simp)).trans hg1
  have k02 : Keep h h2 [] := k01.trans k2 (by simp) (by simp)
  clear hg1 k01 k2 h1
  have rest : ∀ env : List AV, env.length = 64 → slot env 1 = .ptr (some (h.next, 0)) → slot env 3 = .str t → (slot env 13 = .bool true ∨ slot env 13 = .bool false) →
      WCode E2 false (.cond (.tmp 13) (.seq (.region c16_r3 false) .ret) (.seq (.region c16_r4 false) (.cond (.tmp 24) (.seq (.region c16_r5 false) .ret) .skip))) env h2 (BlockQ 0 (SeqQ (WCode E2 false) (.seq (.seq (.region c16_r6 false) (.block 1 (.loop c16_l12))) (.seq (.region c16_r13 false) .ret)) (BodyQ [(2, none)] Q))) := by
    intro env el e1 e3 e13
    rcases e13 with e13 | e13
    · refine WCode.condT (by simp [e13]) (WCode.seq (WCode.region ?_))
      simp [c16_r3, el]
      refine WCode.ret ?_
      simp [el]
      exact q _ _ (by simp) k02
    · refine WCode.condF (by simp [e13]) (WCode.seq (WCode.region ?_))
      have rest2 : ∀ env : List AV, env.length = 64 → slot env 1 = .ptr (some (h.next, 0)) → (slot env 24 = .bool true ∨ slot env 24 = .bool false) →
          WCode E2 false (.cond (.tmp 24) (.seq (.region c16_r5 false) .ret) .skip) env h2 (BlockQ 0 (SeqQ (WCode E2 false) (.seq (.seq (.region c16_r6 false) (.block 1 (.loop c16_l12))) (.seq (.region c16_r13 false) .ret)) (BodyQ [(2, none)] Q))) := by
        intro env el e1 e24
        rcases e24 with e24 | e24
        · refine WCode.condT (by simp [e24]) (WCode.seq (WCode.region ?_))
          simp [c16_r5, el]
          refine WCode.ret ?_
          simp [el]
          exact q _ _ (by simp) k02
        · refine WCode.condF (by simp [e24]) (WCode.skip ?_)
          simp
          refine WCode.seq (WCode.seq (WCode.region ?_))
          simp [c16_r6, el, e1]
          refine bounds55 fun h3 k3 => ?_
          have hg3 := (k3.own (Own.cells hg2) (by simp)).trans hg2
          have k03 : Keep h h3 [] := k02.trans k3 (by simp) (by simp)
          simp [el]
          refine WCode.block (WCode.loop (Inv := fun m env h' => m ≤ 16 ∧ env.length = 64 ∧ Keep h h' [] ∧ h'.get h.next = .cells row 25 h.next 0 false false true ∧ slot env 1 = .ptr (some (h.next, 0)) ∧ slot env 43 = .agg (bnds h.next) ∧ ∃ i : Nat, i + m = 16 ∧ slot env 44 = .int .i64 (i : Int) ∧ (11 < i → 16 ≤ hd ∧ hd ≤ 65536)) ?_ 16 _ _ ⟨by omega, by simp [el], k03, hg3, by simp [el, e1], by simp [el], 0, rfl, by simp [el], by omega⟩)
          clear hg3 k03 k3 h3 hg2 k02 el e1 e24 env
          rintro m env h3 ⟨hm, el, k3, hg3, e1, e43, i, hi, e44, hok⟩
          refine WCode.seq (WCode.region ?_)
          cases m with
          | zero =>
            have e44' : slot env 44 = .int .i64 16 := by rw [e44]; congr 1; omega
            simp [c16_r7, el, e44']
            refine WCode.seq (WCode.condF (by simp [el]) (WCode.exit ?_))
            simp
            refine WCode.seq (WCode.region ?_)
            simp [c16_r13, el]
            refine WCode.ret ?_
            simp [el]
            exact q _ _ (fun _ => hok (by omega)) k3
          | succ m =>
            have hlt : (i : Int) < 16 := by omega
            simp [c16_r7, el, e44, hlt]
            refine WCode.seq (WCode.condT (by simp [el, hlt]) (WCode.skip ?_))
            simp
            obtain ⟨k, lo, up, hk1, hk2, hk3, hpart⟩ := bnds_part h.next (show i < 16 by omega)
            obtain ⟨n, hn⟩ := (rd _ hg3).2.2 k hk1 hk2
            refine WCode.seq (WCode.block (WCode.seq (WCode.region ?_)))
            simp [c16_r8, el, e43, e44, hpart, -idxArrV_at]
            refine BQ.of (store_new (x := .agg [.ptr (some (h.next, k)), .int .i64 lo, .int .i64 up]) rfl rfl rfl) ?_
            have k4 := Keep.row h3 [.ptr (some (h.next, k)), .int .i64 lo, .int .i64 up] 95 true []
            have c4 := fun i => cell1_row h3 [.ptr (some (h.next, k)), .int .i64 lo, .int .i64 up] 95 true i
            simp only [AV.cells]
            have hg4 := (k4.own (Own.cells hg3) (by simp)).trans hg3
            have k04 : Keep h (h3.row [.ptr (some (h.next, k)), .int .i64 lo, .int .i64 up] 95 true) [] := k3.trans k4 (by simp) (by simp)
            have hn4 : cell1 (h3.row [.ptr (some (h.next, k)), .int .i64 lo, .int .i64 up] 95 true) h.next k = some (.int .i64 n) := by
              obtain ⟨n', h4⟩ := hrow k hk1 hk2
              rw [cell1_of hg3, h4] at hn
              rw [cell1_of hg4, h4, ← hn]
            generalize (h3.row [.ptr (some (h.next, k)), .int .i64 lo, .int .i64 up] 95 true) = h4 at *
            simp
            refine WCode.seq (WCode.draw ?_)
            have stop : ∀ env2 : List AV, env2.length = 64 → slot env2 62 = .bool true → WCode E2 false (.cond (.tmp 62) (.seq (.region c16_r10 false) .ret) .skip) env2 h4 (BlockQ 2 (SeqQ (WCode E2 false) (.region c16_r11 false) fun ex env' h' => match ex with
                | .normal => ∃ m', m' < m + 1 ∧ m' ≤ 16 ∧ env'.length = 64 ∧ Keep h h' [] ∧ h'.get h.next = .cells row 25 h.next 0 false false true ∧ slot env' 1 = .ptr (some (h.next, 0)) ∧ slot env' 43 = .agg (bnds h.next) ∧ ∃ i : Nat, i + m' = 16 ∧ slot env' 44 = .int .i64 (i : Int) ∧ (11 < i → 16 ≤ hd ∧ hd ≤ 65536)
                | ex => BlockQ 1 (SeqQ (WCode E2 false) (.seq (.region c16_r13 false) .ret) (BodyQ [(2, none)] Q)) ex env' h')) := by
              intro env2 l2 s62
              refine WCode.condT (by simp [s62]) (WCode.seq (WCode.region ?_))
              simp [c16_r10, l2]
              refine WCode.ret ?_
              simp [l2]
              exact q _ _ (by simp) k04
            have l3 : ∀ q' : AH, q' ∈ [h4] → q' = h4 := fun q' hq => by simpa using hq
            by_cases g1 : n < lo
            · simp [c16_r9, el, slot_mask, c4, hn4, g1]
              refine ⟨⟨?_, ?_, ?_⟩, stop _ (by simp [el]) (by simp [el])⟩
              all_goals exact chk_mem fun q' hq => by rw [l3 q' hq]; simp [el, slot_mask, c4, hn4]
            · by_cases g2 : up < n
              · simp [c16_r9, el, slot_mask, c4, hn4, g1, g2]
                refine ⟨⟨?_, ?_, ?_, ?_, ?_, ?_⟩, stop _ (by simp [el]) (by simp [el])⟩
                all_goals exact chk_mem fun q' hq => by rw [l3 q' hq]; simp [el, slot_mask, c4, hn4]
              · simp [c16_r9, el, slot_mask, c4, hn4, g1, g2]
                refine ⟨⟨?_, ?_, ?_, ?_, ?_, ?_⟩, ?_⟩
                rotate_right
                · refine WCode.condF (by simp [el]) (WCode.skip ?_)
                  simp
                  refine WCode.region ?_
                  have hok' : 11 < i + 1 → 16 ≤ hd ∧ hd ≤ 65536 := by
                    intro h11
                    by_cases h12 : i = 11
                    · obtain ⟨rfl, rfl, rfl⟩ := hk3 h12
                      rw [cell1_of hg3, hrow13] at hn
                      simp only [Option.some.injEq, AV.int.injEq, true_and] at hn
                      omega
                    · exact hok (by omega)
                  have hw : IntKind.i64.wrap ((i : Int) + 1) = ((i + 1 : Nat) : Int) := by rw [wrap_i64 (by omega) (by omega)]; omega
                  simp [c16_r11, el, e44, hw]
                  exact ⟨m, by omega, by omega, k04, hg4, e1, e43, i + 1, by omega, by simp, hok'⟩
                all_goals exact chk_mem fun q' hq => by rw [l3 q' hq]; simp [el, slot_mask, c4, hn4]
      by_cases ha : au = []
      · simp [c16_r4, el, e1, e3, (rd _ hg2).2.1, ha]
        exact rest2 _ (by simp [el]) (by simp [el, e1]) (by simp [el])
      · have ha' : au.isEmpty = false := by simpa using ha
        by_cases ht : t = au
        · subst ht
          by_cases hl : 200 < (t.length : Int)
          · simp [c16_r4, el, e1, e3, (rd _ hg2).2.1, ha, ha', hl]
            exact rest2 _ (by simp [el]) (by simp [el, e1]) (by simp [el])
          · by_cases hd : t = [45]
            · subst hd
              simp [c16_r4, el, e1, e3, (rd _ hg2).2.1]
              exact rest2 _ (by simp [el]) (by simp [el, e1]) (by simp [el])
            · have hd' : (t == [45]) = false := by simpa using hd
              simp [c16_r4, el, e1, e3, (rd _ hg2).2.1, ha, ha', hl, hd, hd']
              exact rest2 _ (by simp [el]) (by simp [el, e1]) (by simp [el])
        · have ht' : (t == au) = false := by simpa using ht
          simp [c16_r4, el, e1, e3, (rd _ hg2).2.1, ha, ha', ht, ht']
          exact rest2 _ (by simp [el]) (by simp [el, e1]) (by simp [el])
  cases b with
  | false =>
    simp
    exact rest _ rfl rfl rfl (by simp)
  | true =>
    by_cases hl : 100 < (nm.length : Int)
    · simp [(rd _ hg2).1, hl]
      exact rest _ (by simp) (by simp) (by simp) (by simp)
    · simp [(rd _ hg2).1, hl]
      exact rest _ (by simp) (by simp) (by simp) (by simp)
end Go.Proofs.YtjihmonajekomaaGreatDoor.Ax
