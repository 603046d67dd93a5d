/- shell.Run's range over its lines: Run's round, the round of 'lines', strings.SplitSeq. Conditions: as each theorem states. -/
import Derived.Test.YtjihmonajekomaaGreatDoorS6
namespace Go.Proofs.YtjihmonajekomaaGreatDoor.Ax
open Go
set_option linter.unusedVariables false
set_option linter.unusedSimpArgs false

/-- What Run's round stands on: k answers so far; M: blocks that it does not touch. -/
structure RunInv (h : AH) (en : List AV) (l1 p4 p5 : Nat) (M : List Nat) (k : Nat) : Prop where
  elen : en.length = 28
  e4 : slot en 4 = .ptr (some (p4, 0))
  e5 : slot en 5 = .ptr (some (p5, 0))
  l : h.get l1 = .loop 0 none en [20] c34_a8 c34_b8
  g4 : ∃ d, h.get p4 = .cells [some d] 139 p4 0 false false true
  is : ∃ v L F, L.length = k ∧ h.get p5 = .cells [some v] 60 p5 0 false false true ∧ IsSl h v 9 1 strC L F ∧ F ≠ p4 ∧ F ≠ p5 ∧ F ≠ l1 ∧ ∀ q ∈ M, q ≠ F
  ne : p4 ≠ p5 ∧ l1 ≠ p4 ∧ l1 ≠ p5
  own : ∀ q ∈ M, Own h q ∧ q ≠ p4 ∧ q ≠ p5 ∧ q ≠ l1

section
variable {h h' : AH} {en : List AV} {l1 p4 p5 : Nat} {M : List Nat} {k : Nat}

theorem Own.of {q : Nat} (o : Own h q) (e : h'.get q = h.get q) : Own h' q := by unfold Own; rw [e]; exact o

theorem RunInv.keep0 (r : RunInv h en l1 p4 p5 M k) (a : Keep h h' []) : RunInv h' en l1 p4 p5 M k := by
  obtain ⟨d, g4⟩ := r.g4
  obtain ⟨v, L, F, hL, g5, hs, f4, f5, fl, fM⟩ := r.is
  refine ⟨r.elen, r.e4, r.e5, by rw [a.own (Own.loop r.l) (by simp)]; exact r.l, ⟨d, by rw [a.own (Own.cells g4) (by simp)]; exact g4⟩, ⟨v, L, F, hL, by rw [a.own (Own.cells g5) (by simp)]; exact g5, hs.keep a (by simp), f4, f5, fl, fM⟩, r.ne, fun q hq => ?_⟩
  obtain ⟨o, n⟩ := r.own q hq
  exact ⟨o.of (a.own o (by simp)), n⟩

theorem RunInv.push (r : RunInv h en l1 p4 p5 M k) (a : Keep h h' []) {N : List Nat} (ho : ∀ x ∈ N, Own h' x ∧ h.next ≤ x) : RunInv h' en l1 p4 p5 (N ++ M) k := by
  have r' := r.keep0 a
  obtain ⟨d, g4⟩ := r.g4
  obtain ⟨v, L, F, hL, g5, hs, f4, f5, fl, fM⟩ := r.is
  have hF := hs.lt
  have h4 := cells_lt g4
  have h5 := cells_lt g5
  have hl := (Own.loop r.l).lt
  refine ⟨r.elen, r.e4, r.e5, r'.l, r'.g4, ⟨v, L, F, hL, by rw [a.own (Own.cells g5) (by simp)]; exact g5, hs.keep a (by simp), f4, f5, fl, fun x hx => ?_⟩, r.ne, fun x hx => ?_⟩
  · rcases List.mem_append.1 hx with hx | hx
    · have := (ho x hx).2; omega
    · exact fM x hx
  · rcases List.mem_append.1 hx with hx | hx
    · have := (ho x hx).2
      exact ⟨(ho x hx).1, by omega, by omega, by omega⟩
    · exact r'.own x hx

theorem RunInv.set (r : RunInv h en l1 p4 p5 M k) {q : Nat} (hq : q ∈ M) {x : ABlk} (hd : x ≠ .dead) (hx : nameOf q x = q) : RunInv (h.set q x) en l1 p4 p5 M k := by
  obtain ⟨oq, n4, n5, nl⟩ := r.own q hq
  have a := Keep.setAt oq x
  obtain ⟨d, g4⟩ := r.g4
  obtain ⟨v, L, F, hL, g5, hs, f4, f5, fl, fM⟩ := r.is
  have nF := fM q hq
  refine ⟨r.elen, r.e4, r.e5, by rw [a.own (Own.loop r.l) (by simp; omega)]; exact r.l, ⟨d, by rw [a.own (Own.cells g4) (by simp; omega)]; exact g4⟩, ⟨v, L, F, hL, by rw [a.own (Own.cells g5) (by simp; omega)]; exact g5, hs.keep a (by simp; omega), f4, f5, fl, fM⟩, r.ne, fun y hy => ?_⟩
  obtain ⟨o, n⟩ := r.own y hy
  refine ⟨?_, n⟩
  by_cases e : q = y
  · subst e
    unfold Own
    rw [AH.get_set_same oq.1]
    exact ⟨hd, hx⟩
  · exact o.of (AH.get_set_other e _)

set_option maxHeartbeats 1000000 in
/-- Run's round. -/
theorem yield1 {s : List Nat} {Q : AV → AH → Prop} (r : RunInv h en l1 p4 p5 M k) (hk : k < 100000) (g : Good s) (q : ∀ h', RunInv h' en l1 p4 p5 M (k + 1) → (∀ x ∈ M, h'.get x = h.get x) → Q (.bool true) h') : WCall E1 (.yield l1) [.str (nameL s)] h Q := by
  obtain ⟨d, g4⟩ := r.g4
  obtain ⟨v, L, F, hL, g5, hs, f4, f5, fl, fM⟩ := r.is
  obtain ⟨n45, nl4, nl5⟩ := r.ne
  have hFl := hs.lt
  refine WCall.yield r.l rfl (WCode.region ?_)
  simp [c34_r6, setParams, r.elen]
  refine ⟨none, en, [20], c34_a8, c34_b8, r.l, ?_⟩
  have k0 := Keep.setAt (Own.loop r.l) (.loop 1 none en [20] c34_a8 c34_b8)
  have gl1 := AH.get_set_same (i := l1) (Own.loop r.l).1 (.loop 1 none en [20] c34_a8 c34_b8)
  have n0 : (h.set l1 (.loop 1 none en [20] c34_a8 c34_b8)).next = h.next := by simp
  generalize (h.set l1 (.loop 1 none en [20] c34_a8 c34_b8)) = h1 at *
  have g41 := k0.cells g4 (cells_lt g4) (by simp; omega)
  have g51 := k0.cells g5 (cells_lt g5) (by simp; omega)
  have hs1 := hs.keep k0 (by simp; omega)
  have c4 := cell1_of g41 0
  have c5 := cell1_of g51 0
  simp only [List.getElem?_cons_zero] at c4 c5
  refine WCode.block (WCode.draw ?_)
  simp [c34_r7, r.elen, r.e4, r.e5, c4, c5]
  refine line88 g fun t h2 k2 => ?_
  have k02 : Keep h h2 [l1] := k0.trans k2 (by simp) (by simp)
  have c52 := cell1_of (k2.cells g51 (cells_lt g51) (by simp)) 0
  simp only [List.getElem?_cons_zero] at c52
  have kr := Keep.row h2 (strC t) 9 true []
  have k0r : Keep h (h2.row (strC t) 9 true) [l1] := k02.trans kr (by simp) (by simp)
  have c5r := cell1_of (kr.cells (k2.cells g51 (cells_lt g51) (by simp)) (by have := k2.next; have := cells_lt g51; omega) (by simp)) 0
  simp only [List.getElem?_cons_zero] at c5r
  simp [r.elen, r.e4, r.e5]
  obtain ⟨w2, h4, F2, ea, s4, k4, hF2⟩ := ((hs1.keep k2 (by simp)).keep kr (by simp)).append (bytes := 16) (M := [t]) ((IsSl.one h2 9 strC_len strC_flat t).taken) (by simp [room, maxText]; omega)
  refine BQ.of (show appendV (h2.row [AV.str t] 9 true) 9 1 16 v (.slice (some (h2.next, 0)) 1 1 1) = _ from ea) ?_
  have k04 : Keep h h4 [l1, F] := k0r.trans k4 (by simp) (by simp)
  have g54 := k04.cells g5 (cells_lt g5) (by simp; omega)
  simp [r.elen, r.e5]
  refine BQ.of (storeV_one g54 s4.cells1) ?_
  have k5 := Keep.set g54 (.cells [some w2] 60 p5 0 false false true)
  have k05 : Keep h (h4.set p5 (.cells [some w2] 60 p5 0 false false true)) [l1, F, p5] := k04.trans k5 (by simp) (by simp)
  have g55 := AH.get_set_same (i := p5) (show h4.get p5 ≠ .dead by rw [g54]; simp) (.cells [some w2] 60 p5 0 false false true)
  have hF2' : F2 ≠ p4 ∧ F2 ≠ p5 ∧ F2 ≠ l1 ∧ ∀ q ∈ M, q ≠ F2 := by
    have a1 := cells_lt g4
    have a2 := cells_lt g5
    have a3 := (Own.loop r.l).lt
    have a4 := k02.next
    rcases hF2 with rfl | rfl
    · exact ⟨f4, f5, fl, fM⟩
    · simp
      exact ⟨by omega, by omega, by omega, fun q hq e => by have := (r.own q hq).1.lt; omega⟩
  have s5 := s4.keep k5 (by simp; omega)
  have gl5 : (h4.set p5 (.cells [some w2] 60 p5 0 false false true)).get l1 = .loop 1 none en [20] c34_a8 c34_b8 := by
    have kk : Keep h1 (h4.set p5 (.cells [some w2] 60 p5 0 false false true)) [F, p5] := ((k2.trans kr (U := []) (by simp) (by simp)).trans k4 (U := [F]) (by simp) (by simp)).trans k5 (by simp) (by simp)
    rw [kk.own (Own.loop gl1) (by simp; omega)]
    exact gl1
  simp
  refine ⟨?_, ?_⟩
  · refine ⟨chk_of fun i hh i0 i1 hi => ?_, chk_of fun i hh i0 i1 hi => ?_⟩
    · obtain rfl : i = 0 := by omega
      simp at hi; subst hi
      simp [r.elen, r.e4, c4]
    · have : i = 0 ∨ i = 1 ∨ i = 2 := by omega
      rcases this with rfl | rfl | rfl <;> (simp at hi; subst hi)
      · simp [r.elen, r.e5, c5]
      · simp [r.elen, r.e5, c52]
      · simpa [r.elen, r.e5, strC] using c5r
  · generalize (h4.set p5 (.cells [some w2] 60 p5 0 false false true)) = h5 at *
    refine ⟨_, _, _, _, _, _, gl5, ?_⟩
    have k6 := Keep.setAt (Own.loop gl5) (.loop 0 none en [20] c34_a8 c34_b8)
    have k06 : Keep h (h5.set l1 (.loop 0 none en [20] c34_a8 c34_b8)) [l1, F, p5] := k05.trans k6 (by simp) (by simp)
    have hM : ∀ x ∈ M, (h5.set l1 (.loop 0 none en [20] c34_a8 c34_b8)).get x = h.get x := fun x hx => by
      obtain ⟨o, q4, q5, ql⟩ := r.own x hx
      have := fM x hx
      exact k06.own o (by simp; exact ⟨ql, this, q5⟩)
    have := q _ ⟨r.elen, r.e4, r.e5, AH.get_set_same (Own.loop gl5).1 _, ⟨d, k06.cells g4 (cells_lt g4) (by simp; omega)⟩, ⟨w2, L ++ [t], F2, by simp [hL], k6.cells g55 (by simpa using cells_lt g55) (by simp; omega), s5.keep k6 (by simp; exact hF2'.2.2.1), hF2'.1, hF2'.2.1, hF2'.2.2.1, hF2'.2.2.2⟩, r.ne, fun x hx => ⟨(r.own x hx).1.of (hM x hx), (r.own x hx).2⟩⟩ hM
    simpa [AExit.jump] using this
end

/-- What the round of 'lines' stands on. -/
structure LnInv (h : AH) (en : List AV) (l1 p4 p5 : Nat) (en2 : List AV) (l2 c : Nat) (M : List Nat) (k : Nat) : Prop where
  run : RunInv h en l1 p4 p5 M k
  elen : en2.length = 15
  e2 : slot en2 2 = .ptr (some (c, 0))
  l : h.get l2 = .loop 0 none en2 [6] c158_a4 c158_b4
  gc : h.get c = .cells [some (.func (.yield l1) [] [])] 92 c 0 false false true
  ml : l2 ∈ M
  mc : c ∈ M
  ne : l2 ≠ c

section
variable {h h' : AH} {en en2 : List AV} {l1 p4 p5 l2 c : Nat} {M : List Nat} {k : Nat}

theorem LnInv.set (r : LnInv h en l1 p4 p5 en2 l2 c M k) {q : Nat} (hq : q ∈ M) {x : ABlk} (hd : x ≠ .dead) (hx : nameOf q x = q) (n1 : q ≠ l2) (n2 : q ≠ c) : LnInv (h.set q x) en l1 p4 p5 en2 l2 c M k :=
  ⟨r.run.set hq hd hx, r.elen, r.e2, by rw [AH.get_set_other n1]; exact r.l, by rw [AH.get_set_other n2]; exact r.gc, r.ml, r.mc, r.ne⟩

theorem yield2 {s : List Nat} {Q : AV → AH → Prop} (r : LnInv h en l1 p4 p5 en2 l2 c M k) (hk : k < 100000) (g : Good s) (q : ∀ h', LnInv h' en l1 p4 p5 en2 l2 c M (k + 1) → (∀ x ∈ M, x ≠ l2 → h'.get x = h.get x) → Q (.bool true) h') : WCall E1 (.yield l2) [.str (nameL s)] h Q := by
  refine WCall.yield r.l rfl (WCode.region ?_)
  simp [c158_r2, setParams, r.elen]
  refine ⟨none, en2, [6], c158_a4, c158_b4, r.l, ?_⟩
  have r1 := r.run.set r.ml (x := .loop 1 none en2 [6] c158_a4 c158_b4) (by simp) rfl
  have gl1 := AH.get_set_same (i := l2) (Own.loop r.l).1 (.loop 1 none en2 [6] c158_a4 c158_b4)
  have gc1 : (h.set l2 (.loop 1 none en2 [6] c158_a4 c158_b4)).get c = _ := (AH.get_set_other r.ne _).trans r.gc
  have o1 : ∀ x ∈ M, x ≠ l2 → (h.set l2 (.loop 1 none en2 [6] c158_a4 c158_b4)).get x = h.get x := fun x hx e => AH.get_set_other (fun e' => e e'.symm) _
  generalize (h.set l2 (.loop 1 none en2 [6] c158_a4 c158_b4)) = h1 at *
  have cc := cell1_of gc1 0
  simp only [List.getElem?_cons_zero] at cc
  refine WCode.block (WCode.seq (WCode.region ?_))
  have hne : (nameL s == []) = false := rfl
  simp [c158_r3, r.elen, r.e2, hne, cc]
  refine yield1 r1 hk g fun h2 r2 o2 => ?_
  simp [r.elen]
  refine WCode.condF (by simp [r.elen]) (WCode.skip ?_)
  simp
  have gl2 := (o2 l2 r.ml).trans gl1
  have gc2 := (o2 c r.mc).trans gc1
  refine ⟨_, _, _, _, _, _, gl2, ?_⟩
  have r3 := r2.set r.ml (x := .loop 0 none en2 [6] c158_a4 c158_b4) (by simp) rfl
  have := q _ ⟨r3, r.elen, r.e2, AH.get_set_same (Own.loop gl2).1 _, (AH.get_set_other r.ne _).trans gc2, r.ml, r.mc, r.ne⟩ (fun x hx e => (AH.get_set_other (fun e' => e e'.symm) _).trans ((o2 x hx).trans (o1 x hx e)))
  simpa [AExit.jump] using this

theorem yield2e {Q : AV → AH → Prop} (r : LnInv h en l1 p4 p5 en2 l2 c M k) (q : ∀ h', LnInv h' en l1 p4 p5 en2 l2 c M k → Q (.bool true) h') : WCall E1 (.yield l2) [.str []] h Q := by
  refine WCall.yield r.l rfl (WCode.region ?_)
  simp [c158_r2, setParams, r.elen]
  refine ⟨none, en2, [6], c158_a4, c158_b4, r.l, ?_⟩
  have r1 := r.run.set r.ml (x := .loop 1 none en2 [6] c158_a4 c158_b4) (by simp) rfl
  have gl1 := AH.get_set_same (i := l2) (Own.loop r.l).1 (.loop 1 none en2 [6] c158_a4 c158_b4)
  have gc1 : (h.set l2 (.loop 1 none en2 [6] c158_a4 c158_b4)).get c = _ := (AH.get_set_other r.ne _).trans r.gc
  generalize (h.set l2 (.loop 1 none en2 [6] c158_a4 c158_b4)) = h1 at *
  refine WCode.block (WCode.seq (WCode.region ?_))
  simp [c158_r3, r.elen, r.e2]
  refine WCode.condF (by simp [r.elen]) (WCode.skip ?_)
  simp
  refine ⟨_, _, _, _, _, _, gl1, ?_⟩
  have r3 := r1.set r.ml (x := .loop 0 none en2 [6] c158_a4 c158_b4) (by simp) rfl
  have := q _ ⟨r3, r.elen, r.e2, AH.get_set_same (Own.loop gl1).1 _, (AH.get_set_other r.ne _).trans gc1, r.ml, r.mc, r.ne⟩
  simpa [AExit.jump] using this

/-- The last piece: nothing, or one more line. -/
def lastN (last : List Nat) : Nat := if last = [] then 0 else 1
def LastOk (last : List Nat) : Prop := last = [] ∨ ∃ s, last = nameL s ∧ Good s
theorem LastOk.lf {last : List Nat} (h : LastOk last) : 10 ∉ last := by
  rcases h with rfl | ⟨s, rfl, g⟩
  · simp
  · exact nameL_lf g.lf
theorem text_ne {ls : List (List Nat)} {last : List Nat} (h : LastOk last) : ([10] == textOf ls last) = false := by
  cases ls with
  | nil => rcases h with rfl | ⟨s, rfl, g⟩ <;> rfl
  | cons x r => rfl

set_option maxHeartbeats 1000000 in
theorem split355 {ls : List (List Nat)} {last : List Nat} {b1 b2 b3 : Nat} {Q : AV → AH → Prop} (r : LnInv h en l1 p4 p5 en2 l2 c M k) (hls : ∀ x ∈ ls, Good x) (hla : LastOk last) (hlen : (textOf ls last).length ≤ 20000) (hk : k + ls.length < 90000)
    (m1 : b1 ∈ M) (m2 : b2 ∈ M) (m3 : b3 ∈ M) (n1 : b1 ≠ l2) (n2 : b2 ≠ l2) (n3 : b3 ≠ l2) (n4 : b2 ≠ c) (n5 : b2 ≠ b1) (n6 : b2 ≠ b3)
    (g1 : h.get b1 = .cells [some (.str [10])] 9 b1 0 false false true) (g2 : h.get b2 = .cells [some (.str (textOf ls last))] 9 b2 0 false false true) (g3 : h.get b3 = .cells [some (.int .i64 0)] 3 b3 0 false false true)
    (q : ∀ h', LnInv h' en l1 p4 p5 en2 l2 c M (k + ls.length + lastN last) → Q (.tuple []) h') :
    WCall E1 (.body 355) [.func (.yield l2) [] [], .ptr (some (b1, 0)), .ptr (some (b2, 0)), .ptr (some (b3, 0))] h Q := by
  refine body1 F355 (WCode.seq (WCode.seq (WCode.region ?_)))
  have c1 := cell1_of g1 0
  simp only [List.getElem?_cons_zero] at c1
  simp [c355, c355_r0, c1]
  refine WCode.condF (by simp) (WCode.skip ?_)
  simp
  refine WCode.seq (WCode.block (WCode.loop (Inv := fun m env h' => ∃ r, r.length = m ∧ m ≤ ls.length ∧ (∀ x ∈ r, Good x) ∧ (textOf r last).length ≤ 20000 ∧ env.length = 52 ∧ slot env 0 = .func (.yield l2) [] [] ∧ slot env 1 = .ptr (some (b1, 0)) ∧ slot env 2 = .ptr (some (b2, 0)) ∧ slot env 3 = .ptr (some (b3, 0)) ∧
    LnInv h' en l1 p4 p5 en2 l2 c M (k + (ls.length - m)) ∧ h'.get b1 = .cells [some (.str [10])] 9 b1 0 false false true ∧ h'.get b2 = .cells [some (.str (textOf r last))] 9 b2 0 false false true ∧ h'.get b3 = .cells [some (.int .i64 0)] 3 b3 0 false false true) ?_ ls.length _ _ ⟨ls, rfl, Nat.le_refl _, hls, hlen, rfl, rfl, rfl, rfl, rfl, by simpa using r, g1, g2, g3⟩))
  clear hls hlen g1 g2 g3 c1 r
  rintro m env h1 ⟨rr, hrm, hm, hls, hlen, el, e0, e1, e2, e3, r, g1, g2, g3⟩
  have c1 := cell1_of g1 0
  have c2 := cell1_of g2 0
  have c3 := cell1_of g3 0
  simp only [List.getElem?_cons_zero] at c1 c2 c3
  refine WCode.block (WCode.seq (WCode.region ?_))
  simp [c355_r6, el, e1, e2, c1, c2]
  refine index157 (by omega) (text_ne hla) ?_
  simp [el]
  cases rr with
  | nil =>
    simp at hrm
    subst hrm
    simp only [textOf, idxE_none hla.lf] at *
    refine WCode.seq (WCode.seq (WCode.region ?_))
    simp [c355_r7, el]
    refine WCode.condT (by simp [el]) (WCode.exit ?_)
    simp
    refine WCode.region ?_
    simp [c355_r12, el, e0, e2, c2]
    have fin : ∀ h', LnInv h' en l1 p4 p5 en2 l2 c M (k + ls.length + lastN last) → NQ (BodyQ c355.results Q) (env) h' := fun h' r' => by simp [c355]; exact q h' r'
    rcases hla with rfl | ⟨s, rfl, g⟩
    · refine yield2e r fun h2 r2 => ?_
      simp
      exact q h2 (by simpa [lastN] using r2)
    · refine yield2 r (by omega) g fun h2 r2 _ => ?_
      simp
      exact q h2 (by simpa [lastN, nameL] using r2)
  | cons x rr =>
    have gx := hls x (by simp)
    simp only [List.length_cons] at hrm
    simp only [textOf, idxE_at (nameL_lf gx.lf)] at *
    have hxl : (nameL x).length + 1 + (textOf rr last).length ≤ 20000 := by simp at hlen; omega
    refine WCode.seq (WCode.seq (WCode.region ?_))
    simp [c355_r7, el]
    refine WCode.condF (by simp [el]) (WCode.skip ?_)
    simp
    refine WCode.seq (WCode.region ?_)
    have hw : IntKind.i64.wrap ((nameL x).length : Int) = (nameL x).length := wrap_i64 (by omega) (by omega)
    have hw1 : IntKind.i64.wrap ((nameL x).length + 1 : Int) = (nameL x).length + 1 := wrap_i64 (by omega) (by omega)
    have hdrop : List.drop ((nameL x).length + 1) (nameL x ++ 10 :: textOf rr last) = textOf rr last := by rw [List.drop_append]; simp
    have hsub : (nameL x).length + ((textOf rr last).length + 1) - ((nameL x).length + 1) = (textOf rr last).length := by omega
    have eb1 : bounds ((nameL x).length + ((textOf rr last).length + 1)) ((nameL x).length + ((textOf rr last).length + 1)) none (some (.int .i64 ((nameL x).length : Nat))) none = some (0, (nameL x).length, (nameL x).length + ((textOf rr last).length + 1)) := bounds_eq (.inl ⟨rfl, rfl⟩) (.inr ⟨.i64, rfl⟩) (by omega) (by omega)
    have eb2 : bounds ((nameL x).length + ((textOf rr last).length + 1)) ((nameL x).length + ((textOf rr last).length + 1)) (some (.int .i64 ((nameL x).length + 1 : Int))) none none = some ((nameL x).length + 1, (nameL x).length + ((textOf rr last).length + 1), (nameL x).length + ((textOf rr last).length + 1)) := by
      rw [show ((nameL x).length + 1 : Int) = (((nameL x).length + 1 : Nat) : Int) from rfl]
      exact bounds_eq (.inr ⟨.i64, rfl⟩) (.inl ⟨rfl, rfl⟩) (by omega) (by omega)
    simp [c355_r8, el, e2, e3, c2, c3, hw, eb1]
    refine WCode.seq (WCode.seq (WCode.region ?_))
    simp [c355_r9, el, e0]
    refine yield2 r (by omega) gx fun h2 r2 o2 => ?_
    simp [el]
    refine WCode.condF (by simp [el]) (WCode.skip ?_)
    simp
    refine WCode.region ?_
    have g12 := (o2 b1 m1 n1).trans g1
    have g22 := (o2 b2 m2 n2).trans g2
    have g32 := (o2 b3 m3 n3).trans g3
    have c12 := cell1_of g12 0
    have c22 := cell1_of g22 0
    simp only [List.getElem?_cons_zero] at c12 c22
    simp [c355_r10, el, e1, e2, c12, c22, hw1, eb2, hdrop, hsub]
    refine BQ.of (storeV_one g22 ⟨rfl, rfl⟩) ?_
    simp
    have a1 := AH.get_set_other (h := h2) n5 (.cells [some (.str (textOf rr last))] 9 b2 0 false false true)
    have a3 := AH.get_set_other (h := h2) n6 (.cells [some (.str (textOf rr last))] 9 b2 0 false false true)
    refine ⟨m - 1, by omega, rr, by omega, by omega, fun y hy => hls y (by simp [hy]), by omega, by simp [el], by simp [e0], by simp [e1], by simp [e2], by simp [e3], ?_, a1.trans g12, AH.get_set_same (by rw [g22]; simp) _, a3.trans g32⟩
    have := r2.set m2 (x := .cells [some (.str (textOf rr last))] 9 b2 0 false false true) (by simp) rfl n2 n4
    rwa [show k + (ls.length - m) + 1 = k + (ls.length - (m - 1)) by omega] at this
end

/-- strings.SplitSeq. -/
theorem split159 {h : AH} {s t : List Nat} {Q : AV → AH → Prop} (q : ∀ h' b1 b2 b3, Keep h h' [] → h.next ≤ b2 → b2 < b1 → b1 < b3 → h'.get b1 = .cells [some (.str t)] 9 b1 0 false false true → h'.get b2 = .cells [some (.str s)] 9 b2 0 false false true → h'.get b3 = .cells [some (.int .i64 0)] 3 b3 0 false false true → Q (.func (.func 355) [] [.ptr (some (b1, 0)), .ptr (some (b2, 0)), .ptr (some (b3, 0))]) h') : WCall E1 (.fn 159) [.str s, .str t] h Q := by
  refine call1 F159 (by decide) (WCode.seq (WCode.region ?_))
  simp [c159, c159_r0]
  refine WCode.seq (WCode.region ?_)
  simp [c159_r1]
  refine call1 F245 (by decide) (WCode.seq (WCode.region ?_))
  simp [c245, c245_r0, boxV]
  have k1 := Keep.row h [.str s] 9 true []
  have k2 := Keep.row (h.row [.str s] 9 true) [.str t] 9 true []
  have k3 := Keep.row ((h.row [.str s] 9 true).row [.str t] 9 true) [.int .i64 0] 3 true []
  have g2 := get_row_new h [.str s] 9 true h.next rfl
  have g1 := get_row_new (h.row [.str s] 9 true) [.str t] 9 true (h.next + 1) rfl
  have g3 := get_row_new ((h.row [.str s] 9 true).row [.str t] 9 true) [.int .i64 0] 3 true (h.next + 2) rfl
  refine WCode.seq (WCode.region ?_)
  simp [c245_r1]
  refine WCode.ret ?_
  simp
  refine WCode.ret ?_
  simp
  have n1 : (h.row [.str s] 9 true).next = h.next + 1 := rfl
  have n2 : ((h.row [.str s] 9 true).row [.str t] 9 true).next = h.next + 2 := rfl
  refine q _ (h.next + 1) h.next (h.next + 2) ((k1.trans k2 (U := []) (by simp) (by simp)).trans k3 (by simp) (by simp)) (by omega) (by omega) (by omega) (k3.cells g1 (by omega) (by simp)) (k3.cells (k2.cells g2 (by omega) (by simp)) (by omega) (by simp)) g3
end Go.Proofs.YtjihmonajekomaaGreatDoor.Ax
