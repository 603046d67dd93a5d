/- ClockParts' own text: true, whatever is set and however the ticks come. Conditions: as each theorem states. -/
import Derived.Test.YtkbekibljcdbjaaP14
namespace Go.Proofs.Ytkbekibljcdbjaa.Ax
open Go
set_option linter.unusedVariables false
set_option linter.unusedSimpArgs false

theorem within_of {n : Int} (h0 : 0 ≤ n) (h1 : n ≤ 1073741824) : within n = n := by unfold within; rw [if_neg (by omega), if_neg (by omega)]

/-- Behind some Sets on both clocks. -/
structure SetsInv (va vp : AV) (L : List (Int × Int × Int)) (P : List Int) (m : Nat) (env : List AV) (h : AH) : Prop where
  le : m ≤ L.length
  elen : env.length = 152
  ok : ∃ (la lb : ML) (ca cb pa ma pb mb : Nat), ClockAt h pa ma la ca 0 ∧ ClockAt h pb mb lb cb 0 ∧ IsIn h va 3 actK L 0 ∧ IsIn h vp 1 intC P 1 ∧ pa ≠ pb ∧ pa ≠ mb ∧ ma ≠ pb ∧ ma ≠ mb ∧ 2 ≤ pa ∧ 2 ≤ ma ∧ 2 ≤ pb ∧ 2 ≤ mb ∧ (∀ id, mget la id = mget lb id) ∧ (∀ id t, mget lb id = some t → 0 ≤ t ∧ t ≤ 1073741824) ∧
    la.length ≤ L.length - m ∧ lb.length ≤ L.length - m ∧
    slot env 1 = vp ∧ slot env 8 = .ptr (some (pa, 0)) ∧ slot env 9 = .ptr (some (pb, 0)) ∧ slot env 53 = va ∧ slot env 54 = .int .i64 L.length ∧ slot env 55 = .int .i64 ((L.length - m : Nat) : Int)

/-- Behind some ticks of the first clock. -/
structure PartsInv (vp : AV) (P : List Int) (pb mb : Nat) (lb : ML) (m : Nat) (env : List AV) (h : AH) : Prop where
  le : m ≤ P.length
  elen : env.length = 152
  ok : ∃ (la : ML) (al : List Int) (sum : Int) (ca cb pa ma Fa : Nat), ClockAt h pa ma la ca sum ∧ ClockAt h pb mb lb cb 0 ∧ IsIn h vp 1 intC P 1 ∧ IsSl h (slot env 12) 3 1 intC al Fa ∧ pa ≠ pb ∧ pa ≠ mb ∧ ma ≠ pb ∧ ma ≠ mb ∧ 2 ≤ pa ∧ 2 ≤ ma ∧ Fa ≠ pa ∧ Fa ≠ ma ∧ Fa ≠ pb ∧ Fa ≠ mb ∧ 2 ≤ Fa ∧
    0 ≤ sum ∧ sum ≤ 1073741824 ∧ (∀ id, mget la id = if m < P.length ∧ atM lb id ≤ sum then none else mget lb id) ∧ la.length < 100000 ∧
    al.Pairwise (lx (atM lb)) ∧ (∀ id, id ∈ al ↔ m < P.length ∧ ∃ t, mget lb id = some t ∧ t ≤ sum) ∧ (m = P.length → sum = 0) ∧
    slot env 1 = vp ∧ slot env 8 = .ptr (some (pa, 0)) ∧ slot env 9 = .ptr (some (pb, 0)) ∧ slot env 13 = .int .i64 sum ∧ slot env 73 = vp ∧ slot env 74 = .int .i64 P.length ∧ slot env 75 = .int .i64 ((P.length - m : Nat) : Int)

theorem count_le : ∀ {l : ML} {A : List Int}, A.Nodup → (∀ x ∈ A, mget l x ≠ none) → A.length ≤ l.length
  | [], A, _, h => by
    cases A with
    | nil => simp
    | cons a A => exact (h a (by simp) rfl).elim
  | r :: l, A, hn, h => by
    have h1 : (A.erase r.1).length ≤ l.length := count_le (hn.erase _) fun x hx => by
      have hx' := (hn.mem_erase_iff).1 hx
      have := h x hx'.2
      simp only [mget] at this
      rw [if_neg (fun e => hx'.1 e.symm)] at this
      exact this
    rw [List.length_erase] at h1
    simp only [List.length_cons]
    split at h1 <;> omega

theorem lx_nodup {f : Int → Int} {A : List Int} (h : A.Pairwise (lx f)) : A.Nodup := h.imp fun {a b} h e => by
  subst e; unfold lx at h; omega

/-- One more tick of the first clock. -/
theorem parts_step {lb la la' : ML} {al s : List Int} {sum nn : Int} {st : Prop} [Decidable st] (h1 : ∀ id, mget la id = if st ∧ atM lb id ≤ sum then none else mget lb id) (h2 : al.Pairwise (lx (atM lb))) (h3 : ∀ id, id ∈ al ↔ st ∧ ∃ t, mget lb id = some t ∧ t ≤ sum)
    (hn : 0 ≤ nn) (ht : TickOk la (sum + nn) s la') :
    (∀ id, mget la' id = if atM lb id ≤ sum + nn then none else mget lb id) ∧ (al ++ s).Pairwise (lx (atM lb)) ∧ (∀ id, id ∈ al ++ s ↔ ∃ t, mget lb id = some t ∧ t ≤ sum + nn) ∧ ∀ id ∈ s, ∃ t, mget lb id = some t ∧ t ≤ sum + nn ∧ (st → sum < t) := by
  have at_ : ∀ id t, mget lb id = some t → atM lb id = t := fun id t h => by unfold atM; rw [h]; rfl
  have fwd : ∀ id ∈ s, ∃ t, mget lb id = some t ∧ t ≤ sum + nn ∧ (st → sum < t) := by
    intro id hid
    obtain ⟨t, g1, g2⟩ := (ht.mem id).1 hid
    rw [h1] at g1
    split at g1
    · cases g1
    · rename_i c
      refine ⟨t, g1, g2, fun hst => ?_⟩
      rw [at_ id t g1] at c
      apply Classical.byContradiction
      intro hc
      exact c ⟨hst, by omega⟩
  have mem : ∀ id, id ∈ al ++ s ↔ ∃ t, mget lb id = some t ∧ t ≤ sum + nn := by
    intro id
    rw [List.mem_append]
    constructor
    · rintro (h | h)
      · obtain ⟨_, t, g1, g2⟩ := (h3 id).1 h; exact ⟨t, g1, by omega⟩
      · obtain ⟨t, g1, g2, _⟩ := fwd id h; exact ⟨t, g1, g2⟩
    · rintro ⟨t, g1, g2⟩
      by_cases c : st ∧ t ≤ sum
      · exact .inl ((h3 id).2 ⟨c.1, t, g1, c.2⟩)
      · refine .inr ((ht.mem id).2 ⟨t, ?_, g2⟩)
        rw [h1, at_ id t g1, if_neg c, g1]
  refine ⟨fun id => ?_, List.pairwise_append.2 ⟨h2, ?_, ?_⟩, mem, fwd⟩
  · rw [ht.rest id, h1]
    cases hb : mget lb id with
    | none => simp
    | some t =>
      rw [at_ id t hb]
      by_cases c : id ∈ s
      · obtain ⟨t', g1, g2, _⟩ := fwd id c
        rw [hb] at g1
        simp at g1
        subst g1
        simp [c, g2]
      · rw [if_neg c]
        by_cases c2 : st ∧ t ≤ sum
        · rw [if_pos c2, if_pos (by omega)]
        · rw [if_neg c2, if_neg]
          intro hle
          refine c ((ht.mem id).2 ⟨t, ?_, hle⟩)
          rw [h1, at_ id t hb, if_neg c2, hb]
  · refine lx_congr (fun x hx => ?_) ht.sorted
    obtain ⟨t, g1, g2⟩ := (ht.mem x).1 hx
    have := g1
    rw [h1] at this
    split at this
    · cases this
    · rw [at_ x t this]; unfold atM; rw [g1]; rfl
  · intro x hx y hy
    obtain ⟨hst, t, g1, g2⟩ := (h3 x).1 hx
    obtain ⟨t', g3, g4, g5⟩ := fwd y hy
    have := g5 hst
    unfold lx
    rw [at_ x t g1, at_ y t' g3]
    omega

set_option maxHeartbeats 4000000 in
theorem parts8 {h : AH} {va vp : AV} {L : List (Int × Int × Int)} {P : List Int} (hin : IsIn h va 3 actK L 0) (hip : IsIn h vp 1 intC P 1) : NCall Try.prog [] (.fn 8) [va, vp] h fun v _ => v = .bool true := by
  refine NCall.fn F8 ?_
  refine NCode.seq (nregion ?_)
  simp [c8, c8_r0]
  refine NCode.seq (nregion ?_)
  simp [c8_r1]
  refine NCode.seq (nregion ?_)
  simp [c8_r2]
  refine ncall0 (set35n ?_)
  simp
  refine NCode.seq (nregion ?_)
  simp [c8_r3]
  refine ncall0 (stop38n ?_)
  simp
  refine NCode.seq (NCode.seq (nregion ?_))
  simp [c8_r4]
  refine ncall0 (left39n ?_)
  simp
  refine NCode.seq (nregion ?_)
  simp [c8_r5]
  refine ncall0 (tick43n ?_)
  simp
  refine ncall0 (now44n ?_)
  simp
  refine NCode.condF (by simp) (NCode.skip ?_)
  simp
  refine NCode.seq (NCode.seq (nregion ?_))
  have fin : ∀ (env2 : List AV) (h2 : AH) (Q' : AExit → List AV → AH → Prop), env2.length = 152 → (∀ e h', slot e 4 = .bool true → Q' .ret e h') → NCode Try.prog [] (.seq (.region c8_r8 false) .ret) env2 h2 Q' := by
    intro env2 h2 Q' l2 hQ
    refine NCode.seq (nregion ?_)
    simp [c8_r8, l2]
    refine lives34 fun h1 k1 => ?_
    simp [l2]
    exact NCode.ret (hQ _ _ (by simp [l2]))
  by_cases h1 : 100 < L.length
  · have h1' : (100 : Int) < L.length := by omega
    simp [c8_r7, hin.lenV, h1, h1']
    refine NCode.condT (by simp) (fin _ _ _ rfl fun e h' he => by simp [he])
  by_cases h2 : 100 < P.length
  · have h1' : ¬ (100 : Int) < L.length := by omega
    have h2' : (100 : Int) < P.length := by omega
    simp [c8_r7, hin.lenV, hip.lenV, h1, h1', h2, h2']
    refine NCode.condT (by simp) (fin _ _ _ rfl fun e h' he => by simp [he])
  have h1' : ¬ (100 : Int) < L.length := by omega
  have h2' : ¬ (100 : Int) < P.length := by omega
  simp [c8_r7, hin.lenV, hip.lenV, h1, h1', h2, h2']
  refine NCode.condF (by simp) (NCode.skip ?_)
  simp
  refine NCode.seq (nregion ?_)
  simp [c8_r9]
  refine ncall0 (new33 (fun e => by omega) fun _ _ h3 pa ma ca k3 g3 hpa hma => ?_)
  simp
  refine ncall0 (new33 (fun e => by omega) fun _ _ h4 pb mb cb k4 g4 hpb hmb => ?_)
  have hl3 := k3.lt
  have hil := hip.lt
  have k34 := k3.keep g4 (by simp) (by simp)
  have hin4 := (hin.keep g3 (by simp)).keep g4 (by simp)
  have hip4 := (hip.keep g3 (by simp)).keep g4 (by simp)
  simp
  refine NCode.seq (NCode.seq (nregion ?_))
  simp [c8_r10, hin.lenV]
  refine NCode.block (NCode.loop (SetsInv va vp L P) ?_ L.length _ _ ⟨Nat.le_refl _, rfl, [], [], ca, cb, pa, ma, pb, mb, k34, k4, hin4, hip4, by omega, by omega, by omega, by omega, by omega, by omega, by omega, by omega, fun _ => rfl, by simp [mget], by simp, by simp, rfl, rfl, rfl, by simp [slot_zero, slot_succ], by simp [slot_zero, slot_succ], by simp [slot_zero, slot_succ]⟩)
  clear hin hip k3 g3 k4 g4 k34 hin4 hip4 hl3 hil
  rintro m env h ⟨hm, hlen, la, lb, ca, cb, pa, ma, pb, mb, cka, ckb, hi, hip, n1, n2, n3, n4, n5, n6, n7, n8, same, bnd, bla, blb, e1, e8, e9, e53, e54, e55⟩
  refine NCode.seq (nregion ?_)
  simp [c8_r11, hlen, e54, e55]
  cases m with
  | succ m =>
    refine NCode.seq (NCode.condT (by simp [hlen]; omega) (NCode.skip ?_))
    simp
    obtain ⟨a, hx⟩ : ∃ a, L[L.length - (m + 1)]? = some a := ⟨L[L.length - (m + 1)]'(by omega), List.getElem?_eq_getElem (by omega)⟩
    obtain ⟨b, o, hidx, hr⟩ := hi.at hx
    refine NCode.seq (NCode.block (NCode.seq (nregion ?_)))
    simp [c8_r12, hlen, e53, e55, hidx, hr.row hx]
    refine BQ.of (store_new (by rfl) (by rfl) (by rfl)) ?_
    have k1 := Keep.row h (actK a) 72 true []
    have cka1 := cka.keep k1 (by simp) (by simp)
    have ckb1 := ckb.keep k1 (by simp) (by simp)
    have hi1 := hi.keep k1 (by simp)
    have hip1 := hip.keep k1 (by simp)
    have ga := get_row_new h (actK a) 72 true h.next rfl
    have gna : h.next < (h.row (actK a) 72 true).next := by simp
    have a1 : cell1 (h.row (actK a) 72 true) h.next 1 = some (.int .i64 a.2.1) := cell1_row _ _ _ _ _
    have a2 : cell1 (h.row (actK a) 72 true) h.next 2 = some (.int .i64 a.2.2) := cell1_row _ _ _ _ _
    have hla := cka.lt
    have hlb := ckb.lt
    simp
    generalize (h.row (actK a) 72 true) = h1 at *
    have cells : ∀ {h' S'}, Keep h1 h' S' → h.next ∉ S' → cell1 h' h.next 1 = some (.int .i64 a.2.1) ∧ cell1 h' h.next 2 = some (.int .i64 a.2.2) := by
      intro h' S' k hns
      have g := k.cells ga gna hns
      exact ⟨by rw [cell1_of g]; rfl, by rw [cell1_of g]; rfl⟩
    refine NCode.seq (nregion ?_)
    simp [c8_r13, hlen, e8, a1, a2]
    refine ncall0 (set35 cka1 (by omega) fun h2 ca2 cka2 k2 => ?_)
    simp
    have c2 := cells k2 (by simp; omega)
    refine nregion ?_
    simp [c8_r14, hlen, e9, c2.1, c2.2]
    refine ncall0 (set35 (ckb1.keep k2 (by simpa using fun e => n3 e.symm) (by simpa using fun e => n4 e.symm)) (by omega) fun h3 cb3 ckb3 k3 => ?_)
    simp
    refine nregion ?_
    simp [c8_r15, hlen, e55]
    have wb := within_b a.2.2
    have hq : L.length - m = L.length - (m + 1) + 1 := by omega
    refine ⟨m, by omega, by omega, by simp [hlen], _, _, _, _, pa, ma, pb, mb, cka2.keep k3 (by simpa using n2) (by simpa using n4), ckb3, (hi1.keep k2 (by simp; omega)).keep k3 (by simp; omega), (hip1.keep k2 (by simp; omega)).keep k3 (by simp; omega), n1, n2, n3, n4, n5, n6, n7, n8,
      fun id => by rw [mset_get, mset_get, same], fun id t ht => ?_, by rw [hq]; have := mset_len la a.2.1 (0 + within a.2.2) ca; omega, by rw [hq]; have := mset_len lb a.2.1 (0 + within a.2.2) cb; omega, by simp [e1], by simp [e8], by simp [e9], by simp [e53], by simp [e54], ?_⟩
    · rw [mset_get] at ht
      split at ht
      · simp at ht; omega
      · exact bnd id t ht
    · rw [wrap_i64 (by omega) (by omega), hq]
      simp [hlen]
  | zero =>
    refine NCode.seq (NCode.condF (by simp [hlen]) (NCode.exit ?_))
    simp
    have k1 := Keep.row h [] 3 true []
    have s1 : IsSl (h.row [] 3 true) (.slice (some (h.next, 0)) 0 0 1) 3 1 intC [] h.next := IsSl.row (f := intC) (es := 1) (L := []) h 3 (fun _ => rfl) (fun _ => rfl) rfl 0 (by simp) rfl
    have cka1 := cka.keep k1 (by simp) (by simp)
    have ckb1 := ckb.keep k1 (by simp) (by simp)
    have hip1 := hip.keep k1 (by simp)
    have hla := cka.lt
    have hlb := ckb.lt
    have hil := hip.lt
    refine NCode.seq (nregion ?_)
    simp [c8_r17, hlen]
    generalize (h.row [] 3 true) = h1 at *
    refine NCode.seq (NCode.seq (nregion ?_))
    simp [c8_r18, hlen, e1, hip.lenV]
    refine NCode.block (NCode.loop (PartsInv vp P pb mb lb) ?_ P.length _ _ ⟨Nat.le_refl _, by simp [hlen], la, [], 0, ca, cb, pa, ma, h.next, cka1, ckb1, hip1, by simpa [hlen] using s1, n1, n2, n3, n4, n5, n6, by omega, by omega, by omega, by omega, by omega, by omega, by omega, fun id => by simp [same], by omega, List.Pairwise.nil, fun id => by simp, fun _ => rfl,
      by simp [hlen, e1], by simp [hlen, e8], by simp [hlen, e9], by simp [hlen], by simp [hlen], by simp [hlen], by simp [hlen]⟩)
    clear cka ckb hi hip same e1 e8 e9 e53 e54 e55 k1 s1 cka1 ckb1 hip1 hla hlb hil n1 n2 n3 n4 n5 n6 hlen hm bla
    rintro m env h ⟨hm, hlen, la, al, sum, ca, cb, pa, ma, Fa, cka, ckb, hip, hsa, n1, n2, n3, n4, n5, n6, f1, f2, f3, f4, f5, b1, b2, hget, bl1, hso, hmem, hz, e1, e8, e9, e13, e73, e74, e75⟩
    obtain ⟨v12, e12⟩ : ∃ v, slot env 12 = v := ⟨_, rfl⟩
    rw [e12] at hsa
    refine NCode.seq (nregion ?_)
    simp [c8_r19, hlen, e74, e75]
    cases m with
    | zero =>
      refine NCode.seq (NCode.condF (by simp [hlen]) (NCode.exit ?_))
      simp
      refine NCode.seq (NCode.seq (nregion ?_))
      by_cases hP : P = []
      · subst hP
        simp [c8_r37, hlen, e1, hip.lenV]
        refine NCode.condT (by simp [hlen]) (NCode.seq (nregion ?_))
        simp [c8_r38, hlen]
        refine lives34 fun h1 k1 => ?_
        simp [hlen]
        exact NCode.ret (by simp [hlen])
      · have hPl : 0 < P.length := List.length_pos_iff.2 hP
        have hPb : ((P.length : Int) == 0) = false := by simp; exact hP
        simp [c8_r37, hlen, e1, hip.lenV, hPb, hP]
        refine NCode.condF (by simp [hlen]) (NCode.skip ?_)
        simp
        refine NCode.seq (nregion ?_)
        simp [c8_r39, hlen, e12, e9, e13]
        have hla := cka.lt
        have hlb := ckb.lt
        have hFl := hsa.lt
        refine tick43 ckb (by omega) (by omega) fun vs h2 Fs s lb' cb' ckb2 s2 k2 hFs ht => ?_
        rw [within_of b1 b2, Int.zero_add] at ckb2 ht
        have hal : al.length ≤ lb.length := count_le (lx_nodup hso) fun id hid => by obtain ⟨_, t, g, _⟩ := (hmem id).1 hid; rw [g]; simp
        have e : al = s := (tick_is ht hso fun id => by rw [hmem id]; simp [hPl]).symm
        simp [hlen]
        have cka2 := cka.keep k2 (by simp; omega) (by simp; omega)
        refine ncall0 (same42 (hsa.keep k2 (by simp; omega)) s2 (by omega) e ?_)
        simp [hlen, e8]
        refine ncall0 (now44 cka2 ?_)
        simp [hlen, e9, e13]
        refine ncall0 (now44 ckb2 ?_)
        simp [hlen, e13]
        refine lives34 fun h1 k1 => ?_
        simp [hlen]
        exact NCode.ret (by simp [hlen])
    | succ m =>
      refine NCode.seq (NCode.condT (by simp [hlen]; omega) (NCode.skip ?_))
      simp
      obtain ⟨x, hx⟩ : ∃ x, P[P.length - (m + 1)]? = some x := ⟨P[P.length - (m + 1)]'(by omega), List.getElem?_eq_getElem (by omega)⟩
      obtain ⟨b, o, hidx, hr⟩ := hip.at hx
      have r0 := hr.cell0 hx (by omega)
      have i1 : ∀ k, idxAddrV 1 vp (.int k (P.length - (m + 1) : Nat)) = some (.ptr (some (b, o + (P.length - (m + 1))))) := fun k => by simpa using hidx k
      simp [intC] at r0
      refine NCode.seq (NCode.block (NCode.seq (nregion ?_)))
      simp [c8_r20, hlen, e73, e75, i1, r0]
      refine NCode.seq (nregion ?_)
      simp [c8_r21, hlen]
      refine ncall0 (within37 ?_)
      have wb := within_b x
      have wn := within_of wb.1 wb.2
      simp [hlen]
      generalize within x = nn at *
      refine NCode.seq (NCode.seq (nregion ?_))
      simp [c8_r22, hlen, e13]
      rw [wrap_i64 (by omega) (by omega)]
      by_cases hover : 1073741824 - sum < nn
      · refine NCode.condT (by simp [hlen, hover]) (NCode.seq (nregion ?_))
        simp [c8_r23, hlen]
        refine lives34 fun h1 k1 => ?_
        simp [hlen]
        exact NCode.ret (by simp [hlen])
      · refine NCode.condF (by simp [hlen, hover]) (NCode.skip ?_)
        simp
        refine NCode.seq (nregion ?_)
        simp [c8_r24, hlen, e8]
        refine tick43 cka (by omega) bl1 fun vs h2 Fs s la' ca' cka2 s2 k2 hFs ht => ?_
        rw [wn] at cka2 ht
        simp [hlen]
        obtain ⟨p1, p2, p3, p4⟩ := parts_step hget hso hmem wb.1 ht
        have hla := cka.lt
        have hlb := ckb.lt
        have hFl := hsa.lt
        have hil := hip.lt
        have kn := k2.next
        have ckb2 := ckb.keep k2 (by simp; omega) (by simp; omega)
        have hip2 := hip.keep k2 (by simp; omega)
        have hsa2 := hsa.keep k2 (by simp; omega)
        refine NCode.seq (NCode.seq (nregion ?_))
        simp [c8_r25, hlen, s2.lenV]
        have hsl : s.length < 100000 := Nat.lt_of_le_of_lt (count_le (lx_nodup ht.sorted) fun id hid => by obtain ⟨t, g, _⟩ := (ht.mem id).1 hid; rw [g]; simp) bl1
        have hal : (al ++ s).length ≤ lb.length := count_le (lx_nodup p2) fun id hid => by obtain ⟨t, g, _⟩ := (p3 id).1 hid; rw [g]; simp
        generalize hq : P.length - (m + 1) = i at *
        have hqm : P.length - m = i + 1 := by omega
        have hst : ¬ m + 1 < P.length → i = 0 := fun hc => by omega
        refine NCode.block (NCode.loop (fun kk env3 h7 => h7 = h2 ∧ kk ≤ s.length ∧ env3.length = 152 ∧ slot env3 1 = vp ∧ slot env3 8 = .ptr (some (pa, 0)) ∧ slot env3 9 = .ptr (some (pb, 0)) ∧ slot env3 12 = v12 ∧ slot env3 13 = .int .i64 sum ∧ slot env3 14 = .int .i64 (i : Int) ∧ slot env3 15 = .int .i64 nn ∧ slot env3 16 = vs ∧
            slot env3 73 = vp ∧ slot env3 74 = .int .i64 P.length ∧ slot env3 75 = .int .i64 (i : Int) ∧ slot env3 90 = vs ∧ slot env3 91 = .int .i64 s.length ∧ slot env3 92 = .int .i64 ((s.length - kk : Nat) : Int)) ?_ s.length _ _
          ⟨rfl, Nat.le_refl _, by simp [hlen], by simp [e1], by simp [e8], by simp [e9], by simp [e12], by simp [e13], by simp [hlen], by simp [hlen], by simp [hlen], by simp [e73], by simp [e74], by simp [e75], by simp [hlen], by simp [hlen], by simp [hlen]⟩)
        clear hlen e1 e8 e9 e12 e13 e73 e74 e75
        rintro kk env3 h7 ⟨rfl, hkk, hlen, e1, e8, e9, e12, e13, e14, e15, e16, e73, e74, e75, e90, e91, e92⟩
        refine NCode.seq (nregion ?_)
        simp [c8_r26, hlen, e91, e92]
        cases kk with
        | zero =>
          refine NCode.seq (NCode.condF (by simp [hlen]) (NCode.exit ?_))
          simp
          refine NCode.seq (nregion ?_)
          simp [c8_r33, hlen, e12, e16]
          obtain ⟨v3, h3, F3, ea, s3, k3, hF3⟩ := hsa2.append (bytes := 8) (M := s) s2.taken (by simp [room, maxText]; simp at hal; omega)
          refine BQ.of ea ?_
          simp
          refine nregion ?_
          simp [c8_r34, hlen, e13, e15]
          rw [wrap_i64 (by omega) (by omega)]
          refine nregion ?_
          simp [c8_r35, hlen, e75]
          have hla2 := cka2.lt
          have hlb2 := ckb2.lt
          have hF3' : F3 ≠ pa ∧ F3 ≠ ma ∧ F3 ≠ pb ∧ F3 ≠ mb ∧ 2 ≤ F3 := by
            rcases hF3 with rfl | rfl
            · exact ⟨f1, f2, f3, f4, f5⟩
            · omega
          obtain ⟨y1, y2, y3, y4, y5⟩ := hF3'
          refine ⟨m, by omega, by omega, by simp [hlen], la', al ++ s, sum + nn, ca', cb, pa, ma, F3, cka2.keep k3 (by simpa using fun e => f1 e.symm) (by simpa using fun e => f2 e.symm), ckb2.keep k3 (by simpa using fun e => f3 e.symm) (by simpa using fun e => f4 e.symm), hip2.keep k3 (by simp; omega), by simpa [hlen] using s3, n1, n2, n3, n4, n5, n6, y1, y2, y3, y4, y5, by omega, by omega,
            fun id => by rw [p1 id]; have hmP : m < P.length := by omega
                         simp [hmP], Nat.lt_of_le_of_lt ht.len bl1, p2, fun id => by rw [p3 id]; have hmP : m < P.length := by omega
                                                                                     simp [hmP], fun e => by omega, by simp [e1], by simp [e8], by simp [e9], by simp [hlen], by simp [e73], by simp [e74], ?_⟩
          rw [wrap_i64 (by omega) (by omega), hqm]
          simp [hlen]
        | succ kk =>
          refine NCode.seq (NCode.condT (by simp [hlen]; omega) (NCode.skip ?_))
          simp
          obtain ⟨y, hy⟩ : ∃ y, s[s.length - (kk + 1)]? = some y := ⟨s[s.length - (kk + 1)]'(by omega), List.getElem?_eq_getElem (by omega)⟩
          obtain ⟨bb, oo, hidx2, hrr⟩ := s2.at hy
          have q0 := hrr.cell0 hy (by omega)
          have i2 : ∀ k, idxAddrV 1 vs (.int k (s.length - (kk + 1) : Nat)) = some (.ptr (some (bb, oo + (s.length - (kk + 1))))) := fun k => by simpa using hidx2 k
          simp [intC] at q0
          obtain ⟨t, g1, g2, g3⟩ := p4 y (List.mem_of_getElem? hy)
          have bt := bnd y t g1
          refine NCode.seq (NCode.block (NCode.seq (nregion ?_)))
          simp [c8_r27, hlen, e90, e92, i2, q0]
          refine NCode.seq (nregion ?_)
          simp [c8_r28, hlen, e9]
          refine ncall0 (left39 ckb2 (fun hn => by rw [g1] at hn; cases hn) fun t' ht' => ?_)
          obtain rfl : t' = t := by rw [g1] at ht'; simpa using ht'.symm
          rw [show t' - 0 = t' by omega, wrap_i64 (by omega) (by omega)]
          simp [hlen]
          refine NCode.seq (nregion ?_)
          have hgt : ¬ sum + nn < t' := by omega
          have w1 : IntKind.i64.wrap (sum + nn) = sum + nn := wrap_i64 (by omega) (by omega)
          have fin2 : ∀ (X : AExit → List AV → AH → Prop) (env4 : List AV), env4.length = 152 → slot env4 1 = vp → slot env4 8 = .ptr (some (pa, 0)) → slot env4 9 = .ptr (some (pb, 0)) → slot env4 12 = v12 → slot env4 13 = .int .i64 sum → slot env4 14 = .int .i64 (i : Int) → slot env4 15 = .int .i64 nn → slot env4 16 = vs →
              slot env4 73 = vp → slot env4 74 = .int .i64 P.length → slot env4 75 = .int .i64 (i : Int) → slot env4 90 = vs → slot env4 91 = .int .i64 s.length → slot env4 92 = .int .i64 ((s.length - (kk + 1) : Nat) : Int) → slot env4 119 = .bool false →
              NCode Try.prog [] (.cond (.tmp 119) (.seq (.region c8_r30 false) .ret) .skip) env4 h7 (BlockQ 5 (SeqQ (NCode Try.prog []) (.region c8_r31 false) fun ex env' h' => match ex with
                | .normal => ∃ m', m' < kk + 1 ∧ h' = h7 ∧ m' ≤ s.length ∧ env'.length = 152 ∧ slot env' 1 = vp ∧ slot env' 8 = .ptr (some (pa, 0)) ∧ slot env' 9 = .ptr (some (pb, 0)) ∧ slot env' 12 = v12 ∧ slot env' 13 = .int .i64 sum ∧ slot env' 14 = .int .i64 (i : Int) ∧ slot env' 15 = .int .i64 nn ∧ slot env' 16 = vs ∧
                    slot env' 73 = vp ∧ slot env' 74 = .int .i64 P.length ∧ slot env' 75 = .int .i64 (i : Int) ∧ slot env' 90 = vs ∧ slot env' 91 = .int .i64 s.length ∧ slot env' 92 = .int .i64 ((s.length - m' : Nat) : Int)
                | ex => X ex env' h')) := by
            intro X env4 l4 u1 u8 u9 u12 u13 u14 u15 u16 u73 u74 u75 u90 u91 u92 u119
            refine NCode.condF (by simp [u119]) (NCode.skip ?_)
            simp only [BlockQ_normal, SeqQ_normal]
            refine nregion ?_
            simp [c8_r31, l4, u92]
            refine ⟨kk, by omega, by omega, by simp [u1], by simp [u8], by simp [u9], by simp [u12], by simp [u13], by simp [u14], by simp [u15], by simp [u16], by simp [u73], by simp [u74], by simp [u75], by simp [u90], by simp [u91], ?_⟩
            rw [wrap_i64 (by omega) (by omega)]; omega
          by_cases hle : t' ≤ sum
          · have hi0 : i = 0 := hst fun hc => by have := g3 hc; omega
            subst hi0
            simp [c8_r29, hlen, e13, e14, e15, w1, hgt, hle]
            refine fin2 _ _ ?_ ?_ ?_ ?_ ?_ ?_ ?_ ?_ ?_ ?_ ?_ ?_ ?_ ?_ ?_ ?_
            all_goals simp [hlen, e1, e8, e9, e12, e13, e14, e15, e16, e73, e74, e75, e90, e91, e92]
          · simp [c8_r29, hlen, e13, e14, e15, w1, hgt, hle]
            refine fin2 _ _ ?_ ?_ ?_ ?_ ?_ ?_ ?_ ?_ ?_ ?_ ?_ ?_ ?_ ?_ ?_ ?_
            all_goals simp [hlen, e1, e8, e9, e12, e13, e14, e15, e16, e73, e74, e75, e90, e91, e92]
end Go.Proofs.Ytkbekibljcdbjaa.Ax
