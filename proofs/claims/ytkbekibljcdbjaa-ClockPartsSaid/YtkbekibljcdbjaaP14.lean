/- ClockPlays' own text: true, whatever the time and the calls. Conditions: as each theorem states. -/
import Derived.Test.YtkbekibljcdbjaaP13
namespace Go.Proofs.Ytkbekibljcdbjaa.Ax
open Go
set_option linter.unusedVariables false
set_option linter.unusedSimpArgs false

def actK (a : Int × Int × Int) : List AV := [.int .i64 a.1, .int .i64 a.2.1, .int .i64 a.2.2]

theorem within37 {h : AH} {n : Int} {Q : AV → AH → Prop} (q : Q (.int .i64 (within n)) h) : WCall E0 (.fn 37) [.int .i64 n] h Q := by
  refine call0 F37 (WCode.seq (WCode.region ?_))
  simp [c37, c37_r0]
  refine WCode.seq (WCode.seq (WCode.region ?_))
  unfold within at q
  by_cases h1 : n < 0
  · simp [c37_r1, h1]
    refine WCode.condT (by simp) (WCode.seq (WCode.region ?_))
    simp [c37_r2]
    refine WCode.ret ?_
    simp [h1] at q ⊢
    exact q
  · simp [c37_r1, h1]
    refine WCode.condF (by simp) (WCode.skip ?_)
    simp
    refine WCode.seq (WCode.seq (WCode.region ?_))
    by_cases h2 : n > 1073741824
    · have h2' : 1073741824 < n := h2
      simp [c37_r3, h2']
      refine WCode.condT (by simp) (WCode.seq (WCode.region ?_))
      simp [c37_r4]
      refine WCode.ret ?_
      simp [h1, h2'] at q ⊢
      exact q
    · have h2' : ¬ 1073741824 < n := h2
      simp [c37_r3, h2']
      refine WCode.condF (by simp) (WCode.skip ?_)
      simp
      refine WCode.seq (WCode.region ?_)
      simp [c37_r5]
      refine WCode.ret ?_
      simp [h1, h2'] at q ⊢
      exact q

theorem rget_filter (W : List (Int × Int)) (id j : Int) : rget (W.filter fun r => r.1 != id) j = if j = id then none else rget W j := by
  induction W with
  | nil => simp [rget]
  | cons r W ih =>
    rw [List.filter_cons]
    by_cases c : r.1 = id
    · simp only [c, bne_self_eq_false, Bool.false_eq_true, if_false, ih, rget]
      by_cases d : j = id
      · simp [d]
      · have d' : ¬ id = j := fun e => d e.symm
        simp [d, d']
    · have cb : (r.1 != id) = true := by simpa using c
      simp only [cb, if_true, rget, ih]
      by_cases d : j = id
      · subst d; simp [c]
      · simp [d]

theorem rget_append (W : List (Int × Int)) (id t j : Int) (h : rget W id = none) : rget (W ++ [(id, t)]) j = if j = id then some t else rget W j := by
  induction W with
  | nil => simp only [List.nil_append, rget, eq_comm]
  | cons r W ih =>
    simp only [rget] at h
    by_cases c : r.1 = id
    · simp [c] at h
    · simp only [c, if_false] at h
      simp only [List.cons_append, rget, ih h]
      by_cases d : j = id
      · subst d; simp [c]
      · simp [d]

theorem rget_none {W : List (Int × Int)} {k : Int} : rget W k = none ↔ ∀ r ∈ W, r.1 ≠ k := by
  induction W with
  | nil => simp [rget]
  | cons r W ih =>
    by_cases c : r.1 = k
    · simp [rget, c]
    · simp only [rget, c, if_false, ih, List.mem_cons, forall_eq_or_imp, ne_eq, not_false_eq_true, true_and]

theorem OnceR.append {W : List (Int × Int)} (ho : OnceR W) {id t : Int} (h : rget W id = none) : OnceR (W ++ [(id, t)]) := by
  unfold OnceR at *
  rw [List.map_append]
  refine List.nodup_append.2 ⟨ho, by simp, fun a ha b hb => ?_⟩
  obtain ⟨r, hr, rfl⟩ := List.mem_map.1 ha
  simp at hb
  subst hb
  exact rget_none.1 h r hr

/-- The clock and the rows say the same. -/
structure Same (l : ML) (W : List (Int × Int)) : Prop where
  once : OnceR W
  get : ∀ id, mget l id = rget W id

theorem Same.set {l W} (h : Same l W) (id t : Int) (c : Nat) : Same (mset l id t c) ((W.filter fun r => r.1 != id) ++ [(id, t)]) := by
  have hn : rget (W.filter fun r => r.1 != id) id = none := by rw [rget_filter]; simp
  refine ⟨(h.once.filter _).append hn, fun j => ?_⟩
  rw [mset_get, rget_append _ _ _ _ hn, rget_filter, h.get]
  by_cases d : j = id <;> simp [d]

theorem Same.del {l W} (h : Same l W) (ho : Once l) (id : Int) : Same (mdel l id) (W.filter fun r => r.1 != id) :=
  ⟨h.once.filter _, fun j => by rw [mdel_get ho, rget_filter, h.get]⟩

theorem Same.tick {l W now s l' D R} (h : Same l W) (ht : TickOk l now s l') (hd : DueOk W now D R) : s = D ∧ Same l' R := by
  have e : s = D := by
    refine tick_is ht (lx_congr (fun x hx => by unfold atR atM; rw [h.get]) hd.sorted) fun id => ?_
    rw [hd.mem id]
    simp only [h.get, rget_mem h.once]
  subst e
  refine ⟨rfl, hd.once, fun id => ?_⟩
  rw [ht.rest id, h.get]
  cases hr : rget R id with
  | none =>
    have h1 := rget_none.1 hr
    by_cases c : id ∈ s
    · simp [c]
    · rw [if_neg c]
      cases hw : rget W id with
      | none => rfl
      | some t =>
        have hm := (rget_mem h.once).1 hw
        exact (h1 (id, t) ((hd.rest _).2 ⟨hm, by
          apply Classical.byContradiction
          intro hc
          exact c ((hd.mem id).2 ⟨t, hm, by simp only at hc; omega⟩)⟩) rfl).elim
  | some t =>
    obtain ⟨hm, hlt⟩ := (hd.rest _).1 ((rget_mem hd.once).1 hr)
    have hw := (rget_mem h.once).2 hm
    rw [if_neg, hw]
    intro hc
    obtain ⟨t', h1, h2⟩ := (hd.mem id).1 hc
    have := (rget_mem h.once).2 h1
    rw [hw] at this
    simp at this hlt
    omega

/-- Behind some calls. -/
structure ClockInv (va : AV) (L : List (Int × Int × Int)) (m : Nat) (env : List AV) (h : AH) : Prop where
  le : m ≤ L.length
  elen : env.length = 133
  ok : ∃ (now : Int) (W : List (Int × Int)) (l : ML) (c p mm F : Nat) (w : AV), ClockAt h p mm l c now ∧ IsSl h w 75 2 entC W F ∧ IsIn h va 3 actK L 0 ∧ F ≠ p ∧ F ≠ mm ∧ 0 < p ∧ 0 < mm ∧ 0 < F ∧ Same l W ∧
    -281474976710656 ≤ now ∧ now ≤ 281474976710656 + 1073741824 * ((L.length - m : Nat) : Int) ∧ W.length ≤ L.length - m ∧ l.length ≤ L.length - m ∧
    slot env 0 = .int .i64 now ∧ slot env 5 = .ptr (some (p, 0)) ∧ slot env 6 = w ∧ slot env 43 = va ∧ slot env 44 = .int .i64 L.length ∧ slot env 45 = .int .i64 ((L.length - m : Nat) : Int)

set_option maxHeartbeats 4000000 in
theorem plays7 {h : AH} {n : Int} {va : AV} {L : List (Int × Int × Int)} (hin : IsIn h va 3 actK L 0) : NCall Try.prog [] (.fn 7) [.int .i64 n, va] h fun v _ => v = .bool true := by
  refine NCall.fn F7 ?_
  refine NCode.seq (nregion ?_)
  simp [c7, c7_r0]
  refine NCode.seq (nregion ?_)
  simp [c7_r1]
  by_cases hout : n < -281474976710656 ∨ 281474976710656 < n ∨ 100 < L.length
  · by_cases h1 : n < -281474976710656
    · refine ncall0 (new33 (fun _ => ?_) fun e => by omega)
      simp
      refine NCode.seq (NCode.seq (nregion ?_))
      simp [c7_r2, h1]
      refine NCode.condT (by simp) (NCode.seq (nregion ?_))
      simp [c7_r3, h1]
      refine lives34 fun h1 k1 => ?_
      simp
      refine NCode.ret ?_
      simp
    · by_cases h2 : 281474976710656 < n
      · refine ncall0 (new33 (fun _ => ?_) fun e => by omega)
        simp
        refine NCode.seq (NCode.seq (nregion ?_))
        simp [c7_r2, h1, h2]
        refine NCode.condT (by simp) (NCode.seq (nregion ?_))
        simp [c7_r3, h1, h2]
        refine lives34 fun h1 k1 => ?_
        simp
        refine NCode.ret ?_
        simp
      · have h3 : 100 < L.length := by omega
        have h3' : (100 : Int) < L.length := by omega
        refine ncall0 (new33 (fun e => by omega) fun _ _ h4 p mm c k4 g4 hp hm => ?_)
        simp
        refine NCode.seq (NCode.seq (nregion ?_))
        simp [c7_r2, h1, h2, h3, h3', hin.lenV]
        refine NCode.condT (by simp) (NCode.seq (nregion ?_))
        simp [c7_r3, h1, h2]
        refine lives34 fun h1 k1 => ?_
        simp
        refine NCode.ret ?_
        simp
  · have h1 : ¬ n < -281474976710656 := by omega
    have h2 : ¬ 281474976710656 < n := by omega
    have h3 : ¬ 100 < L.length := by omega
    have h3' : ¬ (100 : Int) < L.length := by omega
    refine ncall0 (new33 (fun e => by omega) fun _ _ h4 p mm c k4 g4 hp hm => ?_)
    simp
    refine NCode.seq (NCode.seq (nregion ?_))
    simp [c7_r2, h1, h2, h3, h3', hin.lenV]
    refine NCode.condF (by simp) (NCode.skip ?_)
    simp
    refine NCode.seq (NCode.seq (nregion ?_))
    simp [c7_r4]
    refine NCode.condF (by simp) (NCode.skip ?_)
    simp
    refine NCode.seq (nregion ?_)
    simp [c7_r6]
    have k5 := Keep.row h4 [] 75 true []
    have s5 : IsSl (h4.row [] 75 true) (.slice (some (h4.next, 0)) 0 0 2) 75 2 entC [] h4.next := IsSl.row (L := []) h4 75 entC_len entC_flat rfl 0 (by simp) rfl
    have c5 := k4.keep k5 (by simp) (by simp)
    have hin5 := hin.keep (g4.trans k5 (U := []) (by simp) (by simp)) (by simp)
    have hlt := k4.lt
    have hil := hin.lt
    generalize (h4.row [] 75 true) = h5 at *
    refine NCode.seq (NCode.seq (nregion ?_))
    simp [c7_r7, hin.lenV]
    refine NCode.block (NCode.loop (ClockInv va L) ?_ L.length _ _ ⟨Nat.le_refl _, rfl, n, [], [], c, p, mm, h4.next, _, c5, s5, hin5, by omega, by omega, by omega, by omega, by omega, ⟨List.nodup_nil, fun _ => rfl⟩, by omega, by simp; omega, by simp, by simp, rfl, rfl, rfl, by simp [slot_zero, slot_succ], by simp [slot_zero, slot_succ], by simp [slot_zero, slot_succ]⟩)
    clear hin k4 g4 k5 s5 c5 hin5 hlt hil
    rintro m env h ⟨hm, hlen, now, W, l, c, p, mm, F, w, ck, hs, hi, n1, n2, n3, n4, n5, same, b1, b2, bW, bl, e0, e5, e6, e43, e44, e45⟩
    refine NCode.seq (nregion ?_)
    simp [c7_r8, hlen, e44, e45]
    cases m with
    | zero =>
      refine NCode.seq (NCode.condF (by simp [hlen]) (NCode.exit ?_))
      simp
      refine NCode.seq (nregion ?_)
      simp [c7_r31, hlen]
      refine lives34 fun h1 k1 => ?_
      simp [hlen]
      refine NCode.ret ?_
      simp [hlen]
    | succ m =>
    refine NCode.seq (NCode.condT (by simp [hlen]; omega) (NCode.skip ?_))
    simp
    obtain ⟨a, hx⟩ : ∃ a, L[L.length - (m + 1)]? = some a := ⟨L[L.length - (m + 1)]'(by omega), List.getElem?_eq_getElem (by omega)⟩
    obtain ⟨b, o, hidx, hr⟩ := hi.at hx
    refine NCode.seq (NCode.block (NCode.seq (nregion ?_)))
    simp [c7_r9, hlen, e43, e45, hidx, hr.row hx]
    refine BQ.of (store_new (by rfl) (by rfl) (by rfl)) ?_
    have k1 := Keep.row h (actK a) 72 true []
    have ck1 := ck.keep k1 (by simp) (by simp)
    have hs1 := hs.keep k1 (by simp)
    have hi1 := hi.keep k1 (by simp)
    have ga := get_row_new h (actK a) 72 true h.next rfl
    have gna : h.next < (h.row (actK a) 72 true).next := by simp
    have a0 : cell1 (h.row (actK a) 72 true) h.next 0 = some (.int .i64 a.1) := cell1_row _ _ _ _ _
    have a1 : cell1 (h.row (actK a) 72 true) h.next 1 = some (.int .i64 a.2.1) := cell1_row _ _ _ _ _
    have a2 : cell1 (h.row (actK a) 72 true) h.next 2 = some (.int .i64 a.2.2) := cell1_row _ _ _ _ _
    have hpl := ck.lt
    have hFl := hs.lt
    have hnx : h.next < (h.row (actK a) 72 true).next := gna
    simp
    generalize (h.row (actK a) 72 true) = h1 at *
    have cells : ∀ {h' S'}, Keep h1 h' S' → h.next ∉ S' → cell1 h' h.next 1 = some (.int .i64 a.2.1) ∧ cell1 h' h.next 2 = some (.int .i64 a.2.2) := by
      intro h' S' k hns
      have g := k.cells ga gna hns
      exact ⟨by rw [cell1_of g]; rfl, by rw [cell1_of g]; rfl⟩
    generalize hq : L.length - (m + 1) = i at *
    have hqm : L.length - m = i + 1 := by omega
    have fin : ∀ (X : AExit → List AV → AH → Prop) (env2 : List AV) (h2 : AH) (now' : Int) (W' : List (Int × Int)) (l' : ML) (c' F' : Nat) (w' : AV), env2.length = 133 → ClockAt h2 p mm l' c' now' → IsSl h2 w' 75 2 entC W' F' → IsIn h2 va 3 actK L 0 → F' ≠ p → F' ≠ mm → 0 < F' → Same l' W' →
        now ≤ now' → now' ≤ now + 1073741824 → W'.length ≤ W.length + 1 → l'.length ≤ l.length + 1 →
        slot env2 0 = .int .i64 now' → slot env2 5 = .ptr (some (p, 0)) → slot env2 6 = w' → slot env2 43 = va → slot env2 44 = .int .i64 L.length → slot env2 45 = .int .i64 (i : Int) →
        NCode Try.prog [] (.seq (.region c7_r27 false) (.cond (.tmp 130) (.seq (.region c7_r28 false) .ret) .skip)) env2 h2 (BlockQ 1 (SeqQ (NCode Try.prog []) (.region c7_r29 false) fun ex env' h' => match ex with
              | .normal => ∃ m', m' < m + 1 ∧ ClockInv va L m' env' h'
              | ex => X ex env' h')) := by
      intro X env2 h2 now' W' l' c' F' w' l1 l2 l3 l4 l5 l6 l7 l8 t1 t2 t3 t4 s0 s5 s6 s43 s44 s45
      refine NCode.seq (nregion ?_)
      simp [c7_r27, l1, s5]
      refine ncall0 (now44 l2 ?_)
      simp [l1, s0]
      refine NCode.condF (by simp [l1]) (NCode.skip ?_)
      simp
      refine nregion ?_
      simp [c7_r29, l1, s45]
      rw [wrap_i64 (by omega) (by omega)]
      refine ⟨m, by omega, by omega, by simp [l1], now', W', l', c', p, mm, F', w', l2, l3, l4, l5, l6, n3, n4, l7, l8, by omega, by omega, by omega, by omega, by simp [s0], by simp [s5], by simp [s6], by simp [s43], by simp [s44], ?_⟩
      rw [hqm]
      simp [l1]
    refine NCode.seq (NCode.seq (nregion ?_))
    simp [c7_r10, hlen, a0]
    refine NCode.block (NCode.seq (nregion ?_))
    simp [c7_r11, hlen]
    by_cases d1 : a.1 = 1
    · -- Set
      refine NCode.condT (by simp [hlen, d1]) (NCode.seq (nregion ?_))
      simp [c7_r12, hlen, e5, a1, a2]
      refine ncall0 (set35 ck1 (by omega) fun h2 c2 ck2 k2 => ?_)
      simp
      have kn := k2.next
      have hcs := cells k2 (by simp; omega)
      have wb := within_b a.2.2
      refine nofW (WCode.draw ?_)
      simp [c7_r13, hlen, e0, e6, hcs.1]
      refine without36 (hs1.keep k2 (by simpa using n2)) (by omega) fun w' h3 F' s3 k3 hF' => ?_
      have g3 : cell1 h3 h.next 1 = some (.int .i64 a.2.1) ∧ cell1 h3 h.next 2 = some (.int .i64 a.2.2) := by
        have := cells (k2.trans k3 (U := [mm]) (by simp) (by simp)) (by simp; omega)
        exact this
      have kn3 := k3.next
      simp [hlen, e0, g3.1, g3.2]
      refine within37 ?_
      simp [hlen, e0]
      rw [wrap_i64 (by omega) (by omega)]
      have kr := Keep.row h3 (entC (a.2.1, now + within a.2.2)) 75 true []
      have hfl := List.length_filter_le (fun r : Int × Int => r.1 != a.2.1) W
      obtain ⟨w2, h4, F2, ea, s4, k4, hF2⟩ := (s3.keep kr (by simp)).append (bytes := 16) (M := [(a.2.1, now + within a.2.2)]) ((IsSl.one h3 75 entC_len entC_flat (a.2.1, now + within a.2.2)).taken) (by simp [room, maxText]; omega)
      refine BQ.of (show appendV (h3.row [AV.int .i64 a.2.1, AV.int .i64 (now + within a.2.2)] 75 true) 75 2 16 w' (.slice (some (h3.next, 0)) 1 1 2) = _ from ea) ?_
      have hn3 : (h3.row (entC (a.2.1, now + within a.2.2)) 75 true).next = h3.next + 1 := rfl
      have k12 : Keep h1 h2 [mm] := k2
      have k13 : Keep h1 h3 [mm] := k12.trans k3 (by simp) (by simp)
      have k1r : Keep h1 (h3.row [AV.int .i64 a.2.1, AV.int .i64 (now + within a.2.2)] 75 true) [mm] := k13.trans kr (by simp) (by simp)
      have k14 : Keep h1 h4 [mm, F'] := k1r.trans k4 (by simp) (by simp)
      have gr := cells k1r (by simp; omega)
      have g4 := cells k14 (by simp; omega)
      have n1' : F' ≠ p ∧ F' ≠ mm ∧ 0 < F' := by omega
      have hF2' : F2 ≠ p ∧ F2 ≠ mm ∧ 0 < F2 := by
        rcases hF2 with rfl | rfl
        · exact n1'
        · rw [hn3]; omega
      simp
      refine ⟨?_, ?_⟩
      · (repeat' apply And.intro) <;>
        · refine chk_mem fun hh hm => ?_
          simp at hm
          rcases hm with rfl | rfl | rfl | rfl <;> simp [hlen, hcs, g3, gr, g4]
      · refine fin _ _ h4 now _ _ c2 F2 w2 (by simp [hlen]) ((ck2.keep (k3.trans kr (U := []) (by simp) (by simp)) (by simp) (by simp)).keep k4 (by simp; omega) (by simp; omega)) s4 (hi1.keep k14 (by simp; omega)) hF2'.1 hF2'.2.1 hF2'.2.2 (same.set a.2.1 _ c) (by omega) (by omega) (by simp; omega) (mset_len _ _ _ _)
          (by simp [hlen, e0]) (by simp [hlen, e5]) (by simp [hlen]) (by simp [hlen, e43]) (by simp [hlen, e44]) (by simp [hlen, e45])
    · have d1' : (a.1 == 1) = false := by simpa using d1
      refine NCode.condF (by simp [hlen, d1]) (NCode.seq (nregion ?_))
      simp [c7_r14, hlen]
      by_cases d2 : a.1 = 2
      · -- Stop
        refine NCode.condT (by simp [hlen, d2]) (NCode.seq (nregion ?_))
        simp [c7_r15, hlen, e5, a1]
        refine ncall0 (stop38 ck1 fun h2 ck2 k2 => ?_)
        simp
        refine nregion ?_
        simp [c7_r16, hlen, e6, (cells k2 (by simp; omega)).1]
        refine ncall0 (without36 (hs1.keep k2 (by simpa using n2)) (by omega) fun w' h3 F' s3 k3 hF' => ?_)
        simp
        have kn := k2.next
        refine fin _ _ h3 now _ _ c F' w' (by simp [hlen]) (ck2.keep k3 (by simp) (by simp)) s3 ((hi1.keep k2 (by simp; omega)).keep k3 (by simp)) (by omega) (by omega) (by omega) (same.del ck.once a.2.1) (by omega) (by omega) (Nat.le_succ_of_le (List.length_filter_le _ _)) (Nat.le_succ_of_le (mdel_sub l a.2.1).length_le)
          (by simp [hlen, e0]) (by simp [hlen, e5]) (by simp [hlen]) (by simp [hlen, e43]) (by simp [hlen, e44]) (by simp [hlen, e45])
      · refine NCode.condF (by simp [hlen, d2]) (NCode.seq (nregion ?_))
        simp [c7_r17, hlen]
        by_cases d3 : a.1 = 3
        · -- Left
          refine NCode.condT (by simp [hlen, d3]) (NCode.seq (nregion ?_))
          simp [c7_r18, hlen, e5, a1]
          have endL : ∀ (X : AExit → List AV → AH → Prop) (env2 : List AV) (x : Int) (y : Bool), env2.length = 133 → slot env2 9 = .int .i64 x → slot env2 11 = .int .i64 x → slot env2 10 = .bool y → slot env2 12 = .bool y → slot env2 0 = .int .i64 now → slot env2 5 = .ptr (some (p, 0)) → slot env2 6 = w → slot env2 43 = va → slot env2 44 = .int .i64 L.length → slot env2 45 = .int .i64 (i : Int) →
              NCode Try.prog [] (.seq (.region c7_r20 false) (.cond (.tmp 126) (.seq (.region c7_r21 false) .ret) .skip)) env2 h1 (BlockQ 2 (SeqQ (NCode Try.prog []) (.seq (.region c7_r27 false) (.cond (.tmp 130) (.seq (.region c7_r28 false) .ret) .skip)) (BlockQ 1 (SeqQ (NCode Try.prog []) (.region c7_r29 false) fun ex env' h' => match ex with
                | .normal => ∃ m', m' < m + 1 ∧ ClockInv va L m' env' h'
                | ex => X ex env' h')))) := by
            intro X env2 x y l1 t9 t11 t10 t12 s0 s5 s6 s43 s44 s45
            refine NCode.seq (nregion ?_)
            simp [c7_r20, l1, t9, t11, t10, t12]
            refine NCode.condF (by simp [l1]) (NCode.skip ?_)
            simp
            exact fin _ _ h1 now W l c F w (by simp [l1]) ck1 hs1 hi1 n1 n2 n5 same (by omega) (by omega) (by omega) (by omega) (by simp [s0]) (by simp [s5]) (by simp [s6]) (by simp [s43]) (by simp [s44]) (by simp [s45])
          refine ncall0 (left39 ck1 (fun hn => ?_) fun t ht => ?_)
          · simp [hlen]
            refine NCode.seq (nregion ?_)
            simp [c7_r19, hlen, e0, e6, a1]
            refine ncall0 (left40 hs1 (by omega) (fun _ => ?_) fun t ht => by rw [← same.get, hn] at ht; cases ht)
            simp [hlen]
            exact endL _ _ 0 false (by simp [hlen]) (by simp [hlen]) (by simp [hlen]) (by simp [hlen]) (by simp [hlen]) (by simp [e0]) (by simp [e5]) (by simp [e6]) (by simp [e43]) (by simp [e44]) (by simp [e45])
          · simp [hlen]
            refine NCode.seq (nregion ?_)
            simp [c7_r19, hlen, e0, e6, a1]
            refine ncall0 (left40 hs1 (by omega) (fun hn => by rw [← same.get, ht] at hn; cases hn) fun t' ht' => ?_)
            have : t' = t := by rw [← same.get, ht] at ht'; simpa using ht'.symm
            subst this
            simp [hlen]
            exact endL _ _ (IntKind.i64.wrap (t' - now)) true (by simp [hlen]) (by simp [hlen]) (by simp [hlen]) (by simp [hlen]) (by simp [hlen]) (by simp [e0]) (by simp [e5]) (by simp [e6]) (by simp [e43]) (by simp [e44]) (by simp [e45])
        · -- Tick
          have wb := within_b a.2.2
          refine NCode.condF (by simp [hlen, d3]) (NCode.seq (nregion ?_))
          simp [c7_r22, hlen, e0, a2]
          refine ncall0 (within37 ?_)
          simp [hlen]
          rw [wrap_i64 (by omega) (by omega)]
          refine NCode.seq (nregion ?_)
          simp [c7_r23, hlen, e6]
          refine ncall0 (due41 hs1 (by omega) same.once fun vD vR h2 D R FD FR sD sR k2 hFD hFR hdue => ?_)
          simp [hlen]
          refine NCode.seq (nregion ?_)
          simp [c7_r24, hlen]
          refine NCode.seq (nregion ?_)
          have kn := k2.next
          simp [c7_r25, hlen, e5, (cells k2 (by simp)).2]
          refine tick43 (ck1.keep k2 (by simp) (by simp)) (by omega) (by omega) fun v h3 Fs s l' c' ck3 s3 k3 hFs ht => ?_
          have kn3 := k3.next
          obtain ⟨rfl, same'⟩ := same.tick ht hdue
          have sDl := sD.lt
          have sRl := sR.lt
          simp [hlen]
          have sD3 := sD.keep k3 (by simp; omega)
          have hRF : FR ≠ p ∧ FR ≠ mm ∧ 0 < FR := by omega
          refine ncall0 (same42 s3 sD3 (by have := hdue.len; omega) rfl ?_)
          simp [hlen]
          refine NCode.condF (by simp [hlen]) (NCode.skip ?_)
          simp
          exact fin _ _ h3 _ R l' c' FR vR (by simp [hlen]) ck3 (sR.keep k3 (by simp; omega)) ((hi1.keep k2 (by simp)).keep k3 (by simp; omega)) hRF.1 hRF.2.1 hRF.2.2 same' (by omega) (by omega) (by have := hdue.len; omega) (Nat.le_succ_of_le ht.len) (by simp [hlen]) (by simp [hlen, e5]) (by simp [hlen]) (by simp [hlen, e43]) (by simp [hlen, e44]) (by simp [hlen, e45])
end Go.Proofs.Ytkbekibljcdbjaa.Ax
