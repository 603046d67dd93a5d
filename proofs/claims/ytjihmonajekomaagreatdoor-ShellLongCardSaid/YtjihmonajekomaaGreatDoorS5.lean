/- canon.Name answers with some text at every ASCII text (whose length is no special name's); strings.Cut and Index over octets. Conditions: as each theorem states. -/
import Derived.Test.YtjihmonajekomaaGreatDoorC1
import Derived.Test.YtjihmonajekomaaGreatDoorS4
import Derived.Test.YtjihmonajekomaaGreatDoorAx27
namespace Go.Proofs.YtjihmonajekomaaGreatDoor.Ax
open Go
set_option linter.unusedVariables false
set_option linter.unusedSimpArgs false
noncomputable abbrev E1 : Pg := ⟨funcsOf Tryz.prog [], extS, noMt⟩

theorem extS_none {f : FuncId} (h : f ≠ 156 ∧ f ≠ 441) : extS f = none := by simp [extS, h.1, h.2]
set_option maxRecDepth 20000 in
theorem call1 {f : FuncId} {fn : AFn} {args : List AV} {h : AH} {Q : AV → AH → Prop} (hF : funcsOf Tryz.prog [] f = some fn) (hf : f ≠ 156 ∧ f ≠ 441) (hw : WCode E1 false fn.body (args ++ List.replicate (fn.ntmps - args.length) .undef) h (BodyQ fn.results Q)) : WCall E1 (.fn f) args h Q :=
  WCall.fn (E := E1) (extS_none hf) hF hw
set_option maxRecDepth 20000 in
theorem body1 {f : FuncId} {fn : AFn} {args : List AV} {h : AH} {Q : AV → AH → Prop} (hF : funcsOf Tryz.prog [] f = some fn) (hw : WCode E1 false fn.body (args ++ List.replicate (fn.ntmps - args.length) .undef) h (BodyQ fn.results Q)) : WCall E1 (.body f) args h Q :=
  WCall.body (E := E1) hF hw
theorem ext156 {s : List Nat} {c : Int} {h : AH} {Q : AV → AH → Prop} (q : Q (.int .i64 (cntE (c.toNat % 256) s)) h) : WCall E1 (.fn 156) [.str s, .int .u8 c] h Q :=
  WCall.sum (E := E1) (h' := h) (v := .int .i64 (cntE (c.toNat % 256) s)) (show extS 156 = some _ from rfl) rfl q
theorem ext441 {s : List Nat} {c : Int} {h : AH} {Q : AV → AH → Prop} (q : Q (.int .i64 (idxE (c.toNat % 256) s 0)) h) : WCall E1 (.fn 441) [.str s, .int .u8 c] h Q :=
  WCall.sum (E := E1) (h' := h) (v := .int .i64 (idxE (c.toNat % 256) s 0)) (show extS 441 = some _ from rfl) rfl q

theorem lower328 {h : AH} {b : Int} {Q : AV → AH → Prop} (q : ∀ c, Q (.int .u8 c) h) : WCall E1 (.fn 328) [.int .u8 b] h Q := by
  refine call1 F328 (by decide) (WCode.seq (WCode.region ?_))
  simp [c328, c328_r0]
  refine WCode.seq (WCode.seq (WCode.region ?_))
  by_cases h1 : 65 ≤ b
  · by_cases h2 : b ≤ 90
    · simp [c328_r1, h1, h2]
      refine WCode.condT (by simp) (WCode.seq (WCode.region ?_))
      simp [c328_r2]
      refine WCode.ret ?_
      simp
      exact q _
    · simp [c328_r1, h1, h2]
      refine WCode.condF (by simp) (WCode.skip ?_)
      simp
      refine WCode.seq (WCode.region ?_)
      simp [c328_r3]
      refine WCode.ret ?_
      simp
      exact q _
  · simp [c328_r1, h1]
    refine WCode.condF (by simp) (WCode.skip ?_)
    simp
    refine WCode.seq (WCode.region ?_)
    simp [c328_r3]
    refine WCode.ret ?_
    simp
    exact q _

theorem upper252 {h : AH} {b : Int} {Q : AV → AH → Prop} (q : ∀ c, Q (.int .i32 c) h) : WCall E1 (.fn 252) [.int .i32 b] h Q := by
  refine call1 F252 (by decide) (WCode.seq (WCode.region ?_))
  simp [c252, c252_r0]
  refine WCode.seq (WCode.seq (WCode.region ?_))
  by_cases h1 : 97 ≤ b
  · by_cases h2 : b ≤ 122
    · simp [c252_r1, h1, h2]
      refine WCode.condT (by simp) (WCode.seq (WCode.region ?_))
      simp [c252_r2]
      refine WCode.ret ?_
      simp
      exact q _
    · simp [c252_r1, h1, h2]
      refine WCode.condF (by simp) (WCode.skip ?_)
      simp
      refine WCode.seq (WCode.region ?_)
      simp [c252_r3]
      refine WCode.ret ?_
      simp
      exact q _
  · simp [c252_r1, h1]
    refine WCode.condF (by simp) (WCode.skip ?_)
    simp
    refine WCode.seq (WCode.region ?_)
    simp [c252_r3]
    refine WCode.ret ?_
    simp
    exact q _

theorem fold251 {h : AH} {a b : List Nat} {Q : AV → AH → Prop} (hne : ¬ a.length = b.length) (q : Q (.bool false) h) : WCall E1 (.fn 251) [.str a, .str b] h Q := by
  refine call1 F251 (by decide) (WCode.seq (WCode.region ?_))
  simp [c251, c251_r0]
  refine WCode.seq (WCode.seq (WCode.region ?_))
  have h1 : ((a.length : Int) != (b.length : Int)) = true := by simp; omega
  simp [c251_r1, h1]
  refine WCode.condT (by simp) (WCode.seq (WCode.region ?_))
  simp [c251_r2]
  refine WCode.ret ?_
  simp
  exact q

def specials : List AV := [.str [69, 84, 97, 103], .str [84, 69], .str [87, 87, 87, 45, 65, 117, 116, 104, 101, 110, 116, 105, 99, 97, 116, 101], .str [68, 78, 84]]
theorem special250 {h : AH} {Q : AV → AH → Prop} (q : ∀ h', Keep h h' [] → Q (.agg specials) h') : WCall E1 (.fn 250) [] h Q := by
  refine call1 F250 (by decide) (WCode.seq (WCode.region ?_))
  simp [c250, c250_r0]
  refine WCode.seq (WCode.region ?_)
  simp [c250_r1]
  refine BQ.of (store_new (by rfl) (by rfl) (by rfl)) ?_
  simp
  refine WCode.ret ?_
  have hc := cells_row h specials 299 true
  simp only [specials, List.length_cons, List.length_nil] at hc
  simp [hc]
  exact q _ (Keep.row _ _ _ _ _)

theorem Lower233 {h : AH} {s : List Nat} {Q : AV → AH → Prop} (hl : s.length < 100000) (q : ∀ t h', t.length = s.length → Keep h h' [] → Q (.str t) h') : WCall E1 (.fn 233) [.str s] h Q := by
  refine call1 F233 (by decide) (WCode.seq (WCode.region ?_))
  simp [c233, c233_r0]
  refine WCode.seq (WCode.region ?_)
  simp [c233_r1]
  have k1 := Keep.row h (s.map byteAV) 5 false []
  have s1 : IsSl (h.row (s.map byteAV) 5 false) (.slice (some (h.next, 0)) s.length s.length 1) 5 1 u8C (s.map fun b : Nat => (b : Int)) h.next := by
    have := IsSl.rowP h 5 false (L := s.map fun b : Nat => (b : Int)) u8C_len u8C_flat (map_byteAV s)
    simpa using this
  generalize (h.row (s.map byteAV) 5 false) = h1 at *
  generalize (AV.slice (some (h.next, 0)) s.length s.length 1) = v at *
  refine WCode.seq (WCode.seq (WCode.region ?_))
  simp [c233_r2, s1.lenV]
  refine WCode.block (WCode.loop (Inv := fun m env h' => m ≤ s.length ∧ env.length = 23 ∧ Keep h1 h' [h.next] ∧ (∃ L : List Int, L.length = s.length ∧ IsSl h' v 5 1 u8C L h.next) ∧ slot env 3 = v ∧ slot env 8 = v ∧ slot env 9 = .int .i64 s.length ∧ slot env 10 = .int .i64 ((s.length - m : Nat) : Int)) ?_ s.length _ _ ⟨Nat.le_refl _, rfl, Keep.refl _ _, ⟨_, by simp, s1⟩, rfl, rfl, rfl, by simp [slot_zero, slot_succ]⟩)
  rintro m env h2 ⟨hm, hlen, k2, ⟨L, hL, s2⟩, e3, e8, e9, e10⟩
  refine WCode.seq (WCode.region ?_)
  simp [c233_r3, hlen, e9, e10]
  cases m with
  | zero =>
    refine WCode.seq (WCode.condF (by simp [hlen]) (WCode.exit ?_))
    simp
    refine WCode.seq (WCode.region ?_)
    simp [c233_r8, hlen, e3, s2.bytes]
    refine WCode.ret ?_
    simp [hlen]
    exact q _ h2 (by simp [hL]) (k1.trans k2 (by simp) (by simp))
  | succ m =>
    refine WCode.seq (WCode.condT (by simp [hlen]; omega) (WCode.skip ?_))
    simp
    obtain ⟨y, hy⟩ : ∃ y, L[s.length - (m + 1)]? = some y := ⟨L[s.length - (m + 1)]'(by omega), List.getElem?_eq_getElem (by omega)⟩
    obtain ⟨b, o, hidx, hc, hst⟩ := s2.io1 hy
    refine WCode.seq (WCode.block (WCode.seq (WCode.region ?_)))
    simp [c233_r4, hlen, e8, e10, hidx, hc]
    refine WCode.region ?_
    simp [c233_r5, hlen, e3]
    refine lower328 fun c => ?_
    obtain ⟨h3, g1, s3, k3, n3⟩ := hst c
    simp [hlen, e3, hidx]
    refine BQ.of g1 ?_
    simp [hlen]
    refine WCode.region ?_
    simp [c233_r6, hlen, e10]
    refine ⟨m, by omega, by omega, k2.trans k3 (by simp) (by simp), ⟨_, by simp [hL], s3⟩, ?_⟩
    simp [hlen, e3, e8, e9]
    rw [wrap_i64 (by omega) (by omega)]; omega

theorem name165 {h : AH} {s : List Nat} {Q : AV → AH → Prop} (hl : s.length < 100000) (hs : ∀ b ∈ s, b < 128) (hn : ∀ x, AV.str x ∈ specials → ¬ x.length = s.length) (q : ∀ t h', Keep h h' [] → Q (.str t) h') : WCall E1 (.fn 165) [.str s] h Q := by
  refine call1 F165 (by decide) (WCode.seq (WCode.region ?_))
  simp [c165, c165_r0]
  refine WCode.seq (WCode.seq (WCode.region ?_))
  simp [c165_r1]
  refine special250 fun h1 k1 => ?_
  simp
  refine WCode.block (WCode.loop (Inv := fun m env h' => m ≤ 4 ∧ env.length = 48 ∧ h' = h1 ∧ slot env 0 = .str s ∧ slot env 10 = .agg specials ∧ slot env 11 = .int .i64 ((4 - m : Nat) : Int)) ?_ 4 _ _ ⟨Nat.le_refl _, rfl, rfl, rfl, rfl, by simp [slot_zero, slot_succ]⟩)
  rintro m env h2 ⟨hm, hlen, rfl, e0, e10, e11⟩
  refine WCode.seq (WCode.region ?_)
  simp [c165_r2, hlen, e11]
  cases m with
  | zero =>
    refine WCode.seq (WCode.condF (by simp [hlen]) (WCode.exit ?_))
    simp
    -- the lower-cased octets
    refine WCode.seq (WCode.region ?_)
    simp [c165_r8, hlen, e0]
    refine Lower233 hl fun t h3 ht k3 => ?_
    simp [hlen]
    have k4 := Keep.row h3 (t.map byteAV) 5 false []
    have s4 : IsSl (h3.row (t.map byteAV) 5 false) (.slice (some (h3.next, 0)) t.length t.length 1) 5 1 u8C (t.map fun b : Nat => (b : Int)) h3.next := by
      have := IsSl.rowP h3 5 false (L := t.map fun b : Nat => (b : Int)) u8C_len u8C_flat (map_byteAV t)
      simpa using this
    generalize (h3.row (t.map byteAV) 5 false) = h4 at *
    generalize (AV.slice (some (h3.next, 0)) t.length t.length 1) = v at *
    have k14 : Keep h h4 [] := (k1.trans k3 (U := []) (by simp) (by simp)).trans k4 (by simp) (by simp)
    have hv4 := s4.lt
    have n34 := k4.next
    have n3 := k3.next
    have n1 := k1.next
    refine WCode.seq (WCode.region ?_)
    simp [c165_r9, hlen]
    refine WCode.seq (WCode.seq (WCode.region ?_))
    simp [c165_r10, hlen, e0]
    have k5 := Keep.push h4 (.strIter s 0) []
    have g5 := get_push_new h4 (.strIter s 0) h4.next rfl
    have s5 := s4.keep k5 (by simp)
    generalize (h4.push (.strIter s 0)) = h5 at *
    refine WCode.block (WCode.loop (Inv := fun m env h' => m ≤ s.length ∧ env.length = 48 ∧ Keep h4 h' [h3.next] ∧ (∃ L : List Int, L.length = s.length ∧ IsSl h' v 5 1 u8C L h3.next ∧ (slot env 6 = .bool false ∨ slot env 6 = .bool true)) ∧ h'.get h4.next = .strIter s (s.length - m) ∧ slot env 5 = v ∧ slot env 23 = .ptr (some (h4.next, 0))) ?_ s.length _ _ ⟨Nat.le_refl _, by simp [hlen], k5.weaken (by simp), ⟨_, by simp [ht], s5, .inr (by simp [hlen])⟩, by simp [g5], by simp [hlen], by simp [hlen]⟩)
    clear hlen e0 e10 e11 env
    rintro m env h6 ⟨hm, hlen, k6, ⟨L, hL, s6, e6'⟩, g6, e5, e23⟩
    obtain ⟨b, e6⟩ : ∃ b, slot env 6 = .bool b := by rcases e6' with e | e <;> exact ⟨_, e⟩
    have o6 := Own.iter g6
    refine WCode.seq (WCode.region ?_)
    cases m with
    | zero =>
      have hno : s[s.length - 0]? = none := List.getElem?_eq_none (by omega)
      simp [c165_r11, hlen, e23, nextStrV_none g6 hno]
      refine WCode.seq (WCode.condF (by simp [hlen]) (WCode.exit ?_))
      simp
      refine WCode.seq (WCode.region ?_)
      simp [c165_r18, hlen, e5, s6.bytes]
      refine WCode.ret ?_
      simp [hlen]
      exact q _ _ (k14.trans k6 (by simp) (by simp; omega))
    | succ m =>
      have hlt : s.length - (m + 1) < s.length := by omega
      have hsome : s[s.length - (m + 1)]? = some s[s.length - (m + 1)] := List.getElem?_eq_getElem hlt
      have h128 := hs _ (List.getElem_mem hlt)
      generalize s[s.length - (m + 1)] = c at *
      simp [c165_r11, hlen, e23, nextStrV_some g6 hsome h128]
      refine WCode.seq (WCode.condT (by simp [hlen]) (WCode.skip ?_))
      simp
      have k7 := Keep.setAt o6 (.strIter s (s.length - (m + 1) + 1))
      have g7 := AH.get_set_same (i := h4.next) o6.1 (.strIter s (s.length - (m + 1) + 1))
      have s7 := s6.keep k7 (by simp; omega)
      have k47 : Keep h4 (h6.set h4.next (.strIter s (s.length - (m + 1) + 1))) [h3.next] := k6.trans k7 (by simp) (by simp)
      generalize (h6.set h4.next (.strIter s (s.length - (m + 1) + 1))) = h7 at *
      obtain ⟨y, hy⟩ : ∃ y, L[s.length - (m + 1)]? = some y := ⟨L[s.length - (m + 1)]'(by omega), List.getElem?_eq_getElem (by omega)⟩
      obtain ⟨bb, oo, hidx, hc, hst⟩ := s7.io1 hy
      refine WCode.block (WCode.seq (WCode.region ?_))
      simp [c165_r12, hlen]
      refine WCode.seq (WCode.seq (WCode.region ?_))
      simp [c165_r13, hlen, e5, hidx, hc]
      -- behind the octet
      have fin : ∀ (env2 : List AV) (h8 : AH) (L2 : List Int) (x : AV) (k : Int), env2.length = 48 → Keep h4 h8 [h3.next] → L2.length = s.length → IsSl h8 v 5 1 u8C L2 h3.next → h8.get h4.next = .strIter s (s.length - m) → slot env2 5 = v → slot env2 23 = .ptr (some (h4.next, 0)) → slot env2 8 = .int .i32 k →
          WCode E1 false (.region c165_r16 false) env2 h8 (BlockQ 3 fun ex env' h' => match ex with
            | .normal => ∃ m', m' < m + 1 ∧ m' ≤ s.length ∧ env'.length = 48 ∧ Keep h4 h' [h3.next] ∧ (∃ L : List Int, L.length = s.length ∧ IsSl h' v 5 1 u8C L h3.next ∧ (slot env' 6 = .bool false ∨ slot env' 6 = .bool true)) ∧ h'.get h4.next = .strIter s (s.length - m') ∧ slot env' 5 = v ∧ slot env' 23 = .ptr (some (h4.next, 0))
            | ex => BlockQ 2 (SeqQ (WCode E1 false) (.seq (.region c165_r18 false) .ret) (BodyQ c165.results Q)) ex env' h') := by
        intro env2 h8 L2 x k l1 l2 l3 l4 l5 s5 s23 s8
        refine WCode.region ?_
        simp [c165_r16, l1, s8]
        exact ⟨m, by omega, by omega, l2, ⟨L2, l3, l4, by omega⟩, l5, s5, s23⟩
      have hpos : s.length - (m + 1) + 1 = s.length - m := by omega
      rw [hpos] at g7
      refine WCode.seq (WCode.region ?_)
      cases b with
      | false =>
        simp [c165_r14, hlen, e6]
        refine WCode.condF (by simp [hlen]) (WCode.skip ?_)
        simp
        exact fin _ h7 L (.bool true) c (by simp [hlen]) k47 hL s7 g7 (by simp [hlen, e5]) (by simp [hlen, e23]) (by simp [hlen])
      | true =>
        by_cases hy1 : IntKind.i32.wrap y < 128
        · simp [c165_r14, hlen, e6, hy1]
          refine WCode.condT (by simp [hlen]) (WCode.region ?_)
          simp [c165_r15, hlen, e5]
          refine upper252 fun u => ?_
          obtain ⟨h8, q1, q2, q3, q4⟩ := hst (IntKind.u8.wrap u)
          simp [hlen, e5, hidx]
          refine BQ.of q1 ?_
          simp
          have g8 := (q3.own (Own.iter g7) (by simp; omega)).trans g7
          exact fin _ h8 _ (.bool true) c (by simp [hlen]) (k47.trans q3 (by simp) (by simp)) (by simp [hL]) q2 g8 (by simp [hlen, e5]) (by simp [hlen, e23]) (by simp [hlen])
        · simp [c165_r14, hlen, e6, hy1]
          refine WCode.condF (by simp [hlen]) (WCode.skip ?_)
          simp
          exact fin _ h7 L (.bool true) c (by simp [hlen]) k47 hL s7 g7 (by simp [hlen, e5]) (by simp [hlen, e23]) (by simp [hlen])
  | succ m =>
    refine WCode.seq (WCode.condT (by simp [hlen]; omega) (WCode.skip ?_))
    simp
    obtain ⟨x, hx, hxm⟩ : ∃ x, specials[4 - (m + 1)]? = some (.str x) ∧ AV.str x ∈ specials := by
      have : m = 0 ∨ m = 1 ∨ m = 2 ∨ m = 3 := by omega
      rcases this with rfl | rfl | rfl | rfl <;> exact ⟨_, rfl, by simp [specials]⟩
    have hne := hn x hxm
    refine WCode.seq (WCode.block (WCode.seq (WCode.region ?_)))
    have hb : 3 - m < 4 := by omega
    have hx' : specials[3 - m]? = some (.str x) := by rw [← hx]; congr 1; omega
    have hb' : ((3 - m : Nat) : Int) < 4 := by omega
    simp [c165_r3, hlen, e10, e11, hb, hb', hx']
    refine WCode.seq (WCode.region ?_)
    simp [c165_r4, hlen, e0]
    refine fold251 hne ?_
    simp [hlen]
    refine WCode.condF (by simp [hlen]) (WCode.skip ?_)
    simp
    refine WCode.region ?_
    simp [c165_r6, hlen, e11]
    refine ⟨m, by omega, by omega, ?_⟩
    simp [hlen, e0, e10]
    rw [wrap_i64 (by omega) (by omega)]; omega
