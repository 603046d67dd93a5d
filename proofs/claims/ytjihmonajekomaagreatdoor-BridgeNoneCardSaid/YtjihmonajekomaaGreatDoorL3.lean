/- bridge.New and BridgeNone's law, whatever is chosen. Conditions: as each theorem states. -/
import Derived.Test.YtjihmonajekomaaGreatDoorR6
import Derived.Test.YtjihmonajekomaaGreatDoorL2
import Derived.Test.YtjihmonajekomaaGreatDoorB4
import Derived.Test.YtjihmonajekomaaGreatDoorAx32
namespace Go.Proofs.YtjihmonajekomaaGreatDoor.Ax
open Go
set_option linter.unusedVariables false
set_option linter.unusedSimpArgs false
set_option linter.unusedSectionVars false
open K (hA hB hC hD hE hG cl)
attribute [local simp] K.B K.N K.E K.I
theorem mixedL : Tryz.prog.follows .mixedOrders = true := by kernel_rfl
theorem nrun {f : FuncId} {args : List AV} {v : AV} {h h' : AH} (e : K.C7 (.fn f) args h = some (v, h')) {Q : AV → AH → Prop} (q : Q v h') : NCall Tryz.prog [] (.fn f) args h Q :=
  NCall.ofRun libS_sound (noMt_ok _) mixedL (acall_le K.F37_le libS noMt 1000 60 _ _ _ _ e) q
theorem nlives6 {h : AH} {Q : AV → AH → Prop} (q : Q (.bool true) h) : NCall Tryz.prog [] (.fn 6) [] h Q :=
  NCall.fresh libS_sound (noMt_ok _) mixedL (args := []) rfl rfl lives6 q
theorem nofW2 {ac : ACode} {env : List AV} {h : AH} {Q : AExit → List AV → AH → Prop} (hw : WCode E2 false ac env h Q) : NCode Tryz.prog [] ac env h Q := NCode.ofW libS_sound (noMt_ok _) mixedL hw
theorem nreg2 {ops : List AOper} {env : List AV} {h : AH} {Q : AExit → List AV → AH → Prop} (hw : wpOps (NCall Tryz.prog []) noMt ops env h (NQ Q)) : NCode Tryz.prog [] (.region ops false) env h Q := NCode.region (noMt_ok _) hw

/-- What config.Right says of a config. -/
theorem right_is (c : Cf) (h1 : c.n.length < 90000) (h2 : c.a.length < 90000) : ∃ r : Int, (r = 0 → 16 ≤ c.c11 ∧ c.c11 ≤ 65536) ∧ ∀ (h : AH) (Q : AV → AH → Prop), Q (.int .i64 r) h → NCall Tryz.prog [] (.fn 16) [.agg (cl c)] h Q := by
  have hw : WCall E2 (.fn 16) [.agg (cl c)] H0 fun v _ => noPlA v = true ∧ ∃ r : Int, v = .int .i64 r ∧ (r = 0 → 16 ≤ c.c11 ∧ c.c11 ≤ 65536) :=
    right16 (nm := c.n) (au := c.a) (ns := [c.c0, c.c1, c.c2, c.c3, c.c4, c.c5, c.c6, c.c7, c.c8, c.c9, c.c10, c.c11, c.c12, c.c13, c.c14, c.c15]) rfl h1 h2 (hd := c.c11) rfl fun r h' hr _ => ⟨rfl, r, rfl, hr⟩
  obtain ⟨v, ⟨r, rfl, hr⟩, hq⟩ := NCall.freshW libS_sound (noMt_ok _) mixedL (by rfl) hw
  exact ⟨r, hr, hq⟩

section
variable {c : Cf} {r : Int} (hr0 : r = 0 → 16 ≤ c.c11 ∧ c.c11 ≤ 65536) (hR : ∀ (h : AH) (Q : AV → AH → Prop), Q (.int .i64 r) h → NCall Tryz.prog [] (.fn 16) [.agg (cl c)] h Q)
include hr0 hR
theorem new15_nil {Q : AV → AH → Prop} (q : Q (.ptr none) (hC c)) : NCall Tryz.prog [] (.fn 15) [.agg (cl c), .ptr none] (hB c) Q := by
  refine NCall.fn F15 ?_
  have hb : boxV 18 (.agg (cl c)) = some (cl c) := by rw [boxV, if_pos ⟨rfl, rfl⟩]; rfl
  have hh : (hB c).row (cl c) 25 true = hC c := rfl
  have hn : (hB c).next = 6 := rfl
  have hl : (hC c).cellsAt (6, 0) 18 = some (cl c) := by kernel_rfl
  refine NCode.seq (nreg2 ?_)
  simp [c15, c15_r0, hb, hh, hn]
  refine NCode.seq (NCode.seq (nreg2 ?_))
  simp [c15_r1, hl]
  refine hR _ _ ?_
  by_cases e : r = 0
  · simp [e]
    refine NCode.condT (by simp) (NCode.seq (nreg2 ?_))
    simp [c15_r2]
    refine NCode.ret ?_
    simp
    exact q
  · have e' : (r != 0) = true := by simpa using e
    simp [e, e']
    refine NCode.condT (by simp [e, e']) (NCode.seq (nreg2 ?_))
    simp [c15_r2]
    refine NCode.ret ?_
    simp
    exact q

noncomputable def hX (c : Cf) : AH := (hD c).row (cl c) 25 true

theorem new15 {Q : AV → AH → Prop} (q1 : r = 0 → Q (.ptr (some (18, 0))) (hE c)) (q2 : r ≠ 0 → Q (.ptr none) (hX c)) : NCall Tryz.prog [] (.fn 15) [.agg (cl c), .ptr (some (11, 0))] (hD c) Q := by
  refine NCall.fn F15 ?_
  have hb : boxV 18 (.agg (cl c)) = some (cl c) := by rw [boxV, if_pos ⟨rfl, rfl⟩]; rfl
  have hh : (hD c).row (cl c) 25 true = hX c := rfl
  have hn : (hD c).next = 12 := rfl
  have hl : (hX c).cellsAt (12, 0) 18 = some (cl c) := by kernel_rfl
  have hl5 : (hX c).cellsAt (12, 13) 5 = some (lim5 c.c11 c.c12 c.c13 c.c14 c.c15) := by kernel_rfl
  refine NCode.seq (nreg2 ?_)
  simp [c15, c15_r0, hb, hh, hn]
  refine NCode.seq (NCode.seq (nreg2 ?_))
  simp [c15_r1, hl]
  refine hR _ _ ?_
  by_cases e : r = 0
  · simp [e]
    refine NCode.condF (by simp [e]) (NCode.skip ?_)
    simp
    refine NCode.seq (nofW2 (WCode.draw ?_))
    simp [c15_r3, slot_mask, hl, hl5]
    refine reader51 (by have := (hr0 e).1; omega) (hr0 e).2 ?_
    have hl2 : (rd51 (hX c) c.c11 c.c12 c.c13 c.c14 c.c15).cellsAt (12, 0) 18 = some (cl c) := by kernel_rfl
    have hn2 : (rd51 (hX c) c.c11 c.c12 c.c13 c.c14 c.c15).next = 18 := rfl
    have hn3 : (hX c).next = 13 := rfl
    have hfin : (rd51 (hX c) c.c11 c.c12 c.c13 c.c14 c.c15).row [.str [], .str [], .int .i64 0, .int .i64 0, .str [], .slice none 0 0 0, .int .i64 0, .int .i64 0, .bool false, .int .i64 0, .ptr none, .bool false, .bool false, .bool false, .int .i64 0, .str c.n, .str c.a, .int .i64 c.c0, .int .i64 c.c1, .int .i64 c.c2, .int .i64 c.c3, .int .i64 c.c4, .int .i64 c.c5, .int .i64 c.c6, .int .i64 c.c7, .int .i64 c.c8, .int .i64 c.c9, .int .i64 c.c10, .int .i64 c.c11, .int .i64 c.c12, .int .i64 c.c13, .int .i64 c.c14, .int .i64 c.c15, .ptr (some (11, 0)), .ptr none, .str [], .bool false, .ptr (some (17, 0)), .ptr none, .int .i64 1, .int .i64 0] 84 true = hE c := by kernel_rfl
    have hcl : (cl c).length = 18 := rfl
    simp [slot_mask, hn3, boxV, cl, flat, hn2, hfin]
    refine ⟨?_, ?_⟩
    · refine ⟨chk_mem fun q' hq => ?_, chk_mem fun q' hq => ?_⟩ <;>
        (simp only [List.mem_cons, List.not_mem_nil, or_false] at hq
         rcases hq with rfl | rfl | rfl <;> kernel_rfl)
    · refine NCode.ret ?_
      simp
      exact q1 e
  · have e' : (r != 0) = true := by simpa using e
    simp [e, e']
    refine NCode.condT (by simp [e, e']) (NCode.seq (nreg2 ?_))
    simp [c15_r2]
    refine NCode.ret ?_
    simp
    exact q2 e

theorem law3_of (h1 : ¬ 300 < (c.n.length : Int)) (h2 : ¬ 500 < (c.a.length : Int)) {now : Int} : NCall Tryz.prog [] (.fn 3) [.agg (cl c), .int .i64 now] H0 fun v _ => v = .bool true := by
  refine NCall.fn F3 ?_
  have hb : boxV 18 (.agg (cl c)) = some (cl c) := by rw [boxV, if_pos ⟨rfl, rfl⟩]; rfl
  have hh : H0.row (cl c) 25 true = hA c := rfl
  have hn : H0.next = 0 := rfl
  have a0 : cell1 (hA c) 0 0 = some (.str c.n) := rfl
  have a1 : cell1 (hA c) 0 1 = some (.str c.a) := rfl
  refine NCode.seq (nreg2 ?_)
  simp [c3, c3_r0, hb, hh, hn]
  refine NCode.seq (NCode.seq (nreg2 ?_))
  simp [c3_r1, a0, a1, h1, h2]
  refine NCode.condF (by simp [h1, h2]) (NCode.skip ?_)
  simp
  refine NCode.seq (nreg2 ?_)
  simp [c3_r3]
  refine NCode.seq (nreg2 ?_)
  simp [c3_r4]
  refine nrun (K.run7 _) ?_
  simp
  refine NCode.seq (nreg2 ?_)
  simp [c3_r5]
  refine nrun (K.run8 _) ?_
  simp
  refine NCode.seq (NCode.seq (nreg2 ?_))
  simp [c3_r6]
  refine nrun (K.run9 _ _) ?_
  simp
  refine nrun (K.run10 _ _) ?_
  simp
  refine nrun (K.run11 _) ?_
  simp
  refine nrun (K.run13a _) ?_
  simp
  refine nrun (K.run12 _ _) ?_
  simp
  refine nrun (K.run14 _) ?_
  have b0 : (hB c).cellsAt (0, 0) 18 = some (cl c) := by kernel_rfl
  simp [b0]
  refine new15_nil hr0 hR ?_
  simp
  refine NCode.condF (by simp) (NCode.skip ?_)
  simp
  refine NCode.seq (nreg2 ?_)
  simp [c3_r8]
  refine nrun (K.run13b _) ?_
  simp
  refine NCode.seq (nreg2 ?_)
  have d0 : (hD c).cellsAt (0, 0) 18 = some (cl c) := by kernel_rfl
  simp [c3_r9, d0]
  refine new15 hr0 hR (fun e => ?_) fun e => ?_
  · simp
    refine NCode.seq (NCode.seq (nreg2 ?_))
    have e0 : (hE c).cellsAt (0, 0) 18 = some (cl c) := by kernel_rfl
    simp [c3_r10, e0]
    refine hR _ _ ?_
    simp [e]
    refine NCode.condF (by simp [e]) (NCode.skip ?_)
    simp
    refine NCode.seq (nreg2 ?_)
    simp [c3_r12]
    refine nrun (K.run9b _ _) ?_
    simp
    refine nrun (K.run12b _ _) ?_
    simp
    refine nrun (K.run11b _ _) ?_
    simp
    refine nrun (K.run14b _ _) ?_
    simp
    refine nlives6 ?_
    simp
    refine NCode.ret ?_
    simp
  · simp
    refine NCode.seq (NCode.seq (nreg2 ?_))
    have e0 : (hX c).cellsAt (0, 0) 18 = some (cl c) := by kernel_rfl
    simp [c3_r10, e0]
    refine hR _ _ ?_
    have e' : (r != 0) = true := by simpa using e
    simp [e, e']
    refine NCode.condT (by simp [e, e']) (NCode.seq (nreg2 ?_))
    simp [c3_r11]
    refine nlives6 ?_
    simp
    refine NCode.ret ?_
    simp
end

theorem law3 {c : Cf} {now : Int} : NCall Tryz.prog [] (.fn 3) [.agg (cl c), .int .i64 now] H0 fun v _ => v = .bool true := by
  by_cases h1 : 300 < (c.n.length : Int) ∨ 500 < (c.a.length : Int)
  · refine NCall.fn F3 ?_
    have hb : boxV 18 (.agg (cl c)) = some (cl c) := by rw [boxV, if_pos ⟨rfl, rfl⟩]; rfl
    have hh : H0.row (cl c) 25 true = hA c := rfl
    have hn : H0.next = 0 := rfl
    have a0 : cell1 (hA c) 0 0 = some (.str c.n) := rfl
    have a1 : cell1 (hA c) 0 1 = some (.str c.a) := rfl
    refine NCode.seq (nreg2 ?_)
    simp [c3, c3_r0, hb, hh, hn]
    refine NCode.seq (NCode.seq (nreg2 ?_))
    have go : ∀ env : List AV, env.length = 111 → slot env 21 = .bool true → NCode Tryz.prog [] (.cond (.tmp 21) (.seq (.region c3_r2 false) .ret) .skip) env (hA c) (SeqQ (NCode Tryz.prog []) (.seq (.region c3_r3 false) (.seq (.region c3_r4 false) (.seq (.region c3_r5 false) (.seq (.seq (.region c3_r6 false) (.cond (.tmp 71) (.seq (.region c3_r7 false) .ret) .skip)) (.seq (.region c3_r8 false) (.seq (.region c3_r9 false) (.seq (.seq (.region c3_r10 false) (.cond (.tmp 78) (.seq (.region c3_r11 false) .ret) .skip)) (.seq (.region c3_r12 false) .ret)))))))) (BodyQ [(4, none)] fun v _ => v = .bool true)) := by
      intro env el e21
      refine NCode.condT (by simp [e21]) (NCode.seq (nreg2 ?_))
      simp [c3_r2]
      refine nlives6 ?_
      simp [el]
      refine NCode.ret ?_
      simp [el]
    by_cases g1 : 300 < (c.n.length : Int)
    · simp [c3_r1, a0, a1, g1]
      exact go _ rfl rfl
    · have g2 : 500 < (c.a.length : Int) := h1.resolve_left g1
      simp [c3_r1, a0, a1, g1, g2]
      exact go _ rfl rfl
  · have g1 : ¬ 300 < (c.n.length : Int) := fun h => h1 (.inl h)
    have g2 : ¬ 500 < (c.a.length : Int) := fun h => h1 (.inr h)
    obtain ⟨r, hr, hR⟩ := right_is c (by omega) (by omega)
    exact law3_of hr hR g1 g2
end Go.Proofs.YtjihmonajekomaaGreatDoor.Ax
