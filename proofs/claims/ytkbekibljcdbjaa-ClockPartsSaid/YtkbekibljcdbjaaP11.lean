/- What the reference's Due does, by the evaluator; the order of times and numbers. Conditions: as each theorem states. -/
import Derived.Test.YtkbekibljcdbjaaP10
namespace Go.Proofs.Ytkbekibljcdbjaa.Ax
open Go
set_option linter.unusedVariables false
set_option linter.unusedSimpArgs false

/-- Ahead of: by time, then by number. -/
def lx (at_ : Int → Int) (a b : Int) : Prop := at_ a < at_ b ∨ at_ a = at_ b ∧ a < b

theorem lx_unique {at_ : Int → Int} : ∀ {A B : List Int}, A.Pairwise (lx at_) → B.Pairwise (lx at_) → (∀ x, x ∈ A ↔ x ∈ B) → A = B
  | [], [], _, _, _ => rfl
  | [], b :: B, _, _, h => by have := (h b).2 (by simp); simp at this
  | a :: A, [], _, _, h => by have := (h a).1 (by simp); simp at this
  | a :: A, b :: B, hA, hB, h => by
    rw [List.pairwise_cons] at hA hB
    have e : a = b := by
      rcases List.mem_cons.1 ((h a).1 (by simp)) with e | e
      · exact e
      · rcases List.mem_cons.1 ((h b).2 (by simp)) with e' | e'
        · exact e'.symm
        · have h1 := hB.1 a e
          have h2 := hA.1 b e'
          unfold lx at h1 h2
          omega
    subst e
    congr 1
    refine lx_unique hA.2 hB.2 fun x => ⟨fun hx => ?_, fun hx => ?_⟩
    · rcases List.mem_cons.1 ((h x).1 (by simp [hx])) with e | e
      · subst e; have := hA.1 x hx; unfold lx at this; omega
      · exact e
    · rcases List.mem_cons.1 ((h x).2 (by simp [hx])) with e | e
      · subst e; have := hB.1 x hx; unfold lx at this; omega
      · exact e

theorem lx_congr {f g : Int → Int} {A : List Int} (h : ∀ x ∈ A, f x = g x) (hA : A.Pairwise (lx f)) : A.Pairwise (lx g) := by
  induction A with
  | nil => exact List.Pairwise.nil
  | cons a A ih =>
    rw [List.pairwise_cons] at hA ⊢
    refine ⟨fun b hb => ?_, ih (fun x hx => h x (by simp [hx])) hA.2⟩
    have := hA.1 b hb
    unfold lx at this ⊢
    rwa [h a (by simp), h b (by simp [hb])] at this

def OnceR (W : List (Int × Int)) : Prop := (W.map (·.1)).Nodup

theorem rget_mem {W : List (Int × Int)} (ho : OnceR W) {k t : Int} : rget W k = some t ↔ (k, t) ∈ W := by
  induction W with
  | nil => simp [rget]
  | cons r l ih =>
    obtain ⟨r1, r2⟩ := r
    have ho' : OnceR l := (List.nodup_cons.1 ho).2
    have hn := (List.nodup_cons.1 ho).1
    simp only [rget]
    by_cases c : r1 = k
    · subst c
      simp only [if_true, Option.some.injEq, List.mem_cons, Prod.mk.injEq]
      constructor
      · rintro rfl; exact .inl ⟨trivial, rfl⟩
      · rintro (⟨_, h⟩ | h)
        · exact h.symm
        · exact (hn (List.mem_map.2 ⟨_, h, rfl⟩)).elim
    · have c' : ¬ k = r1 := fun e => c e.symm
      simp only [c, if_false, ih ho', List.mem_cons, Prod.mk.injEq, c', false_and, false_or]

theorem OnceR.filter {W : List (Int × Int)} (ho : OnceR W) (p : Int × Int → Bool) : OnceR (W.filter p) := List.Nodup.sublist (List.filter_sublist.map _) ho

theorem OnceR.eq {W : List (Int × Int)} (ho : OnceR W) {a b : Int × Int} (ha : a ∈ W) (hb : b ∈ W) (e : a.1 = b.1) : a = b := by
  obtain ⟨a1, a2⟩ := a
  obtain ⟨b1, b2⟩ := b
  simp only at e
  subst e
  have h1 := (rget_mem ho).2 ha
  have h2 := (rget_mem ho).2 hb
  rw [h1] at h2
  simp at h2
  rw [h2]

def atR (W : List (Int × Int)) (k : Int) : Int := (rget W k).getD 0
theorem atR_mem {W : List (Int × Int)} (ho : OnceR W) {r : Int × Int} (hr : r ∈ W) : atR W r.1 = r.2 := by
  unfold atR; rw [(rget_mem ho (t := r.2)).2 hr]; rfl

/-- Who is due, in order, and the others. -/
structure DueOk (W : List (Int × Int)) (now : Int) (D : List Int) (R : List (Int × Int)) : Prop where
  sorted : D.Pairwise (lx (atR W))
  mem : ∀ id, id ∈ D ↔ ∃ t, (id, t) ∈ W ∧ t ≤ now
  rest : ∀ r, r ∈ R ↔ r ∈ W ∧ now < r.2
  once : OnceR R
  len : D.length + R.length ≤ W.length

/-- On the way: some are taken, the least first. -/
structure DueMid (W : List (Int × Int)) (now : Int) (D : List Int) (l : List (Int × Int)) : Prop where
  sorted : D.Pairwise (lx (atR W))
  due : ∀ id ∈ D, ∃ t, (id, t) ∈ W ∧ t ≤ now
  less : ∀ x ∈ D, ∀ r ∈ l, r.2 ≤ now → lx (atR W) x r.1
  left : ∀ r, r ∈ l ↔ r ∈ W ∧ r.1 ∉ D
  once : OnceR l
  len : D.length + l.length ≤ W.length

theorem DueMid.done {W now D l} (hW : OnceR W) (h : DueMid W now D l) (hn : ∀ r ∈ l, now < r.2) : DueOk W now D l :=
  ⟨h.sorted, fun id => ⟨h.due id, fun ⟨t, h1, h2⟩ => by
      apply Classical.byContradiction
      intro hc
      have := hn (id, t) ((h.left _).2 ⟨h1, hc⟩)
      simp only at this; omega⟩,
    fun r => ⟨fun hr => ⟨((h.left r).1 hr).1, hn r hr⟩, fun ⟨h1, h2⟩ => (h.left r).2 ⟨h1, fun hc => by
      obtain ⟨t, h3, h4⟩ := h.due _ hc
      have := hW.eq h1 h3 rfl
      rw [this] at h2
      simp only at h2; omega⟩⟩, h.once, by have := h.len; omega⟩

theorem filter_lt {b : Int × Int} : ∀ {l : List (Int × Int)}, b ∈ l → (l.filter fun r => r.1 != b.1).length < l.length := by
  intro l hb
  induction l with
  | nil => simp at hb
  | cons a l ih =>
    have hle := List.length_filter_le (fun r : Int × Int => r.1 != b.1) l
    rw [List.filter_cons]
    rcases List.mem_cons.1 hb with e | e
    · subst e; simp only [bne_self_eq_false, Bool.false_eq_true, if_false, List.length_cons]; omega
    · have := ih e
      split <;> (simp only [List.length_cons]; omega)

theorem DueMid.step {W now D l} (hW : OnceR W) (h : DueMid W now D l) {b : Int × Int} (hb : b ∈ l) (hd : b.2 ≤ now) (hmin : ∀ r ∈ l, r.2 ≤ now → r ≠ b → b.2 < r.2 ∨ b.2 = r.2 ∧ b.1 < r.1) : DueMid W now (D ++ [b.1]) (l.filter fun r => r.1 != b.1) := by
  have hbW := ((h.left b).1 hb).1
  have hbD := ((h.left b).1 hb).2
  refine ⟨?_, ?_, ?_, ?_, h.once.filter _, ?_⟩
  · refine List.pairwise_append.2 ⟨h.sorted, by simp, fun x hx y hy => ?_⟩
    obtain rfl := List.mem_singleton.1 hy
    exact h.less x hx b hb hd
  · intro id hid
    rcases List.mem_append.1 hid with h1 | h1
    · exact h.due id h1
    · obtain rfl := List.mem_singleton.1 h1
      exact ⟨b.2, hbW, hd⟩
  · intro x hx r hr hrd
    obtain ⟨hr1, hr2⟩ := List.mem_filter.1 hr
    rcases List.mem_append.1 hx with h1 | h1
    · exact h.less x h1 r hr1 hrd
    · obtain rfl := List.mem_singleton.1 h1
      have hrb : r ≠ b := fun e => by subst e; simp at hr2
      have := hmin r hr1 hrd hrb
      unfold lx
      rw [atR_mem hW hbW, atR_mem hW ((h.left r).1 hr1).1]
      exact this
  · intro r
    rw [List.mem_filter, h.left r, List.mem_append, List.mem_singleton]
    simp [and_assoc]
  · have h1 : (l.filter fun r => r.1 != b.1).length < l.length := by
      exact filter_lt hb
    have := h.len
    simp only [List.length_append, List.length_singleton]
    omega

/-- Nearer than the nearest so far. -/
def nearer (x y : Int × Int) : Prop := x.2 < y.2 ∨ x.2 = y.2 ∧ x.1 < y.1

/-- The nearest of the first ones. -/
def Best (l : List (Int × Int)) (now : Int) (i : Nat) (best : Int) : Prop :=
  (best = -1 ∧ ∀ r ∈ l.take i, now < r.2) ∨ ∃ (j : Nat) (b : Int × Int), best = j ∧ l[j]? = some b ∧ j < i ∧ b.2 ≤ now ∧ ∀ r ∈ l.take i, r.2 ≤ now → r ≠ b → nearer b r

set_option maxHeartbeats 4000000 in
theorem due41 {h : AH} {w : AV} {W : List (Int × Int)} {F : Nat} {now : Int} {Q : AV → AH → Prop} (hs : IsSl h w 75 2 entC W F) (hl : W.length < 100000) (hW : OnceR W)
    (q : ∀ vD vR h' D R FD FR, IsSl h' vD 3 1 intC D FD → IsSl h' vR 75 2 entC R FR → Keep h h' [] → h.next ≤ FD → (FR = F ∨ h.next ≤ FR) → DueOk W now D R → Q (.tuple [vD, vR]) h') : WCall E0 (.fn 41) [w, .int .i64 now] h Q := by
  refine call0 F41 (WCode.seq (WCode.region ?_))
  simp [c41, c41_r0]
  refine WCode.seq (WCode.region ?_)
  simp [c41_r1]
  have k0 := Keep.row h [] 3 true []
  have s0 : IsSl (h.row [] 3 true) (.slice (some (h.next, 0)) 0 0 1) 3 1 intC [] h.next := IsSl.row (f := intC) (es := 1) (L := []) h 3 (fun _ => rfl) (fun _ => rfl) rfl 0 (by simp) rfl
  refine WCode.block (WCode.loop (Inv := fun m env h' => env.length = 86 ∧ slot env 1 = .int .i64 now ∧ ∃ l D FD FR, m = l.length ∧ IsSl h' (slot env 6) 3 1 intC D FD ∧ IsSl h' (slot env 0) 75 2 entC l FR ∧ Keep h h' [] ∧ h.next ≤ FD ∧ (FR = F ∨ h.next ≤ FR) ∧ FD ≠ FR ∧ DueMid W now D l) ?_ W.length _ _
    ⟨rfl, rfl, W, [], h.next, F, rfl, by simpa [slot_zero, slot_succ] using s0, by simpa [slot_zero, slot_succ] using hs.keep k0 (by simp), k0, Nat.le_refl _, .inl rfl, (by have := hs.lt; omega), ⟨List.Pairwise.nil, by simp, by simp, by simp, hW, by simp⟩⟩)
  rintro m0 env h' ⟨hlen, e1, l, D, FD, FR, rfl, sD, sl, k1, hFD, hFR, hne, hmid⟩
  obtain ⟨vD, e6⟩ : ∃ v, slot env 6 = v := ⟨_, rfl⟩
  obtain ⟨vl, e0⟩ : ∃ v, slot env 0 = v := ⟨_, rfl⟩
  rw [e6] at sD
  rw [e0] at sl
  have hll : l.length < 100000 := by have := hmid.len; omega
  have hDl : D.length < 100000 := by have := hmid.len; omega
  refine WCode.block (WCode.seq (WCode.region ?_))
  simp [c41_r2, hlen]
  refine WCode.seq (WCode.seq (WCode.region ?_))
  simp [c41_r3, hlen]
  refine WCode.block (WCode.loop (Inv := fun m env h2 => h2 = h' ∧ m ≤ l.length ∧ env.length = 86 ∧ slot env 0 = vl ∧ slot env 1 = .int .i64 now ∧ slot env 6 = vD ∧ slot env 8 = .int .i64 ((l.length - m : Nat) : Int) ∧ ∃ best, slot env 7 = .int .i64 best ∧ Best l now (l.length - m) best) ?_ l.length _ _
    ⟨rfl, Nat.le_refl _, by simp [hlen], by simp [hlen, e0], by simp [hlen, e1], by simp [hlen, e6], by simp [hlen], -1, by simp [hlen], .inl ⟨rfl, by simp⟩⟩)
  rintro m env h2 ⟨rfl, hm, hlen, e0, e1, e6, e8, best, e7, hbest⟩
  refine WCode.seq (WCode.seq (WCode.region ?_))
  simp [c41_r4, hlen, e0, e8, sl.lenV]
  cases m with
  | zero =>
    refine WCode.condF (by simp [hlen]) (WCode.exit ?_)
    simp
    refine WCode.seq (WCode.seq (WCode.region ?_))
    simp [c41_r9, hlen, e7]
    rcases hbest with ⟨rfl, hnone⟩ | ⟨j, b, rfl, hj, hji, hbd, hmin⟩
    · refine WCode.condT (by simp [hlen]) (WCode.seq (WCode.region ?_))
      simp [c41_r10, hlen, e0, e6]
      refine WCode.ret ?_
      simp [hlen]
      exact q _ _ _ D l FD FR sD sl k1 hFD hFR (hmid.done hW (by simpa using hnone))
    · refine WCode.condF (by simp [hlen]) (WCode.skip ?_)
      simp
      have hmem : b ∈ l := List.mem_of_getElem? hj
      obtain ⟨bb, o, hidx, hr⟩ := sl.at hj
      have r0 := hr.cell0 hj (by omega)
      simp [entC] at r0
      refine WCode.seq (WCode.region ?_)
      simp [c41_r11, hlen, e0, e6, e7, hidx, r0]
      have ka := Keep.row h2 (intC b.1) 3 true []
      obtain ⟨v', h3, F2, ha, s2, k2, hF2⟩ := (sD.keep ka (by simp)).append (bytes := 8) (M := [b.1]) ((IsSl.one h2 3 (f := intC) (fun _ => rfl) (fun _ => rfl) b.1).taken) (by simp [room, maxText]; omega)
      refine BQ.of (show appendV (h2.row [AV.int .i64 b.1] 3 true) 3 1 8 vD (.slice (some (h2.next, 0)) 1 1 1) = _ from ha) ?_
      simp
      have k3 : Keep h2 h3 [FD] := ka.trans k2 (by simp) (by simp)
      have hFRl := sl.lt
      have hn2 := k2.next
      have hn1 := k1.next
      have sl3 := sl.keep k3 (by simpa using fun e => hne e.symm)
      obtain ⟨bb3, o3, hidx3, hr3⟩ := sl3.at hj
      have r3 := hr3.cell0 hj (by omega)
      simp [entC] at r3
      refine WCode.region ?_
      simp [c41_r12, hlen, e0, e6, e7, hidx3, r3]
      refine without36 sl3 hll fun w' h4 F4 s4 k4 hF4 => ?_
      simp [hlen]
      have hF2' : F2 < h3.next := s2.lt
      have hn2' : h2.next + 1 ≤ h3.next := by simpa using hn2
      have hF2n : h.next ≤ F2 := by
        rcases hF2 with rfl | rfl
        · exact hFD
        · simp; omega
      exact ⟨_, filter_lt hmem, e1, _, rfl, _, F2, s2.keep k4 (by simp), F4, s4, k1.trans (k3.trans k4 (U := [FD]) (by simp) (by simp)) (by simp) (by simp; omega), hF2n, .inr (by omega), by omega, hmid.step hW hmem hbd fun r hr hrd hrb => hmin r (by simpa using hr) hrd hrb⟩
  | succ m =>
    refine WCode.condT (by simp [hlen]; omega) (WCode.skip ?_)
    simp
    obtain ⟨y, hy⟩ : ∃ y, l[l.length - (m + 1)]? = some y := ⟨l[l.length - (m + 1)]'(by omega), List.getElem?_eq_getElem (by omega)⟩
    have htake : l.take (l.length - m) = l.take (l.length - (m + 1)) ++ [y] := by
      rw [show l.length - m = l.length - (m + 1) + 1 by omega, List.take_add_one, hy]; rfl
    have hyl := (List.getElem?_eq_some_iff.1 hy).1
    obtain ⟨bb, o, hidx, hr⟩ := sl.at hy
    have r0 := hr.cell0 hy (by omega)
    have r1 := hr.cell hy 1 (by omega)
    simp [entC] at r0 r1
    generalize hi : l.length - (m + 1) = i at *
    have fin : ∀ (X : AExit → List AV → AH → Prop) (env2 : List AV) (best2 : Int), env2.length = 86 → slot env2 0 = vl → slot env2 1 = .int .i64 now → slot env2 6 = vD → slot env2 8 = .int .i64 (i : Int) → slot env2 7 = .int .i64 best2 → Best l now (l.length - m) best2 →
        WCode E0 false (.region c41_r7 false) env2 h2 fun ex env' h' => match ex with
          | .normal => ∃ m', m' < m + 1 ∧ (h' = h2 ∧ m' ≤ l.length ∧ env'.length = 86 ∧ slot env' 0 = vl ∧ slot env' 1 = .int .i64 now ∧ slot env' 6 = vD ∧ slot env' 8 = .int .i64 ((l.length - m' : Nat) : Int) ∧ ∃ best, slot env' 7 = .int .i64 best ∧ Best l now (l.length - m') best)
          | ex => X ex env' h' := by
      intro X env2 best2 l2 a0 a1 a6 a8 a7 hB
      refine WCode.region ?_
      simp [c41_r7, l2, a8]
      refine ⟨m, by omega, by omega, by simp [a0], by simp [a1], by simp [a6], ?_, best2, by simp [a7], hB⟩
      rw [wrap_i64 (by omega) (by omega)]; omega
    have fin2 : ∀ (X : AExit → List AV → AH → Prop) (env2 : List AV) (t : Bool), env2.length = 86 → slot env2 0 = vl → slot env2 1 = .int .i64 now → slot env2 6 = vD → slot env2 8 = .int .i64 (i : Int) → slot env2 7 = .int .i64 best → slot env2 65 = .bool t → Best l now (l.length - m) (if t then i else best) →
        WCode E0 false (.cond (.tmp 65) (.region c41_r6 false) .skip) env2 h2 (BlockQ 3 (SeqQ (WCode E0 false) (.region c41_r7 false) fun ex env' h' => match ex with
          | .normal => ∃ m', m' < m + 1 ∧ (h' = h2 ∧ m' ≤ l.length ∧ env'.length = 86 ∧ slot env' 0 = vl ∧ slot env' 1 = .int .i64 now ∧ slot env' 6 = vD ∧ slot env' 8 = .int .i64 ((l.length - m' : Nat) : Int) ∧ ∃ best, slot env' 7 = .int .i64 best ∧ Best l now (l.length - m') best)
          | ex => X ex env' h')) := by
      intro X env2 t l2 a0 a1 a6 a8 a7 a65 hB
      cases t with
      | true =>
        refine WCode.condT (by simp [a65]) (WCode.region ?_)
        simp [c41_r6, l2, a8]
        exact fin X _ i (by simp [l2]) (by simp [a0]) (by simp [a1]) (by simp [a6]) (by simp [a8]) (by simp [l2]) (by simpa using hB)
      | false =>
        refine WCode.condF (by simp [a65]) (WCode.skip ?_)
        simp only [BlockQ_normal, SeqQ_normal]
        exact fin X _ best l2 a0 a1 a6 a8 a7 (by simpa using hB)
    have hlm : l.length - m = i + 1 := by omega
    rw [hlm] at htake
    have hmemy : y ∈ l := List.mem_of_getElem? hy
    have keep : (y.2 ≤ now → ∃ (j : Nat) (b : Int × Int), best = j ∧ l[j]? = some b ∧ (b = y ∨ nearer b y)) → Best l now (l.length - m) best := by
      intro hk
      rw [hlm]
      rcases hbest with ⟨rfl, hnone⟩ | ⟨j, b, rfl, hj, hji, hbd, hmin⟩
      · refine .inl ⟨rfl, fun r hr => ?_⟩
        rw [htake] at hr
        rcases List.mem_append.1 hr with hr | hr
        · exact hnone r hr
        · obtain rfl := List.mem_singleton.1 hr
          apply Classical.byContradiction
          intro hc
          obtain ⟨j, _, hj, _⟩ := hk (by omega)
          omega
      · refine .inr ⟨j, b, rfl, hj, by omega, hbd, fun r hr hrd hrb => ?_⟩
        rw [htake] at hr
        rcases List.mem_append.1 hr with hr | hr
        · exact hmin r hr hrd hrb
        · obtain rfl := List.mem_singleton.1 hr
          obtain ⟨j', b', hj', hjb', hn⟩ := hk hrd
          obtain rfl : j = j' := by omega
          rw [hj] at hjb'
          simp at hjb'
          subst hjb'
          rcases hn with rfl | hn
          · exact (hrb rfl).elim
          · exact hn
    have take : y.2 ≤ now → (∀ (j : Nat) (b : Int × Int), best = j → l[j]? = some b → nearer y b) → Best l now (l.length - m) i := by
      intro hd hk
      rw [hlm]
      refine .inr ⟨i, y, rfl, hy, by omega, hd, fun r hr hrd hrb => ?_⟩
      rw [htake] at hr
      rcases List.mem_append.1 hr with hr | hr
      · rcases hbest with ⟨rfl, hnone⟩ | ⟨j, b, rfl, hj, hji, hbd, hmin⟩
        · have := hnone r hr; omega
        · have h1 := hk j b rfl hj
          by_cases e : r = b
          · subst e; exact h1
          · have h2 := hmin r hr hrd e
            unfold nearer at h1 h2 ⊢
            omega
      · exact (hrb (List.mem_singleton.1 hr)).elim
    refine WCode.seq (WCode.block (WCode.seq (WCode.draw ?_)))
    by_cases hd : y.2 ≤ now
    · rcases hbest with ⟨rfl, hnone⟩ | ⟨j, b, rfl, hj, hji, hbd, hmin⟩
      · -- the first that is due
        simp (config := { maxSteps := 4000000 }) [c41_r5, hlen, e0, e1, e7, e8, hidx, r0, r1, hd]
        refine ⟨?_, ?_⟩
        · refine chk_mem fun hh hm => ?_
          simp at hm
          subst hm
          simp [hlen, r1]
        · refine fin2 _ _ true ?_ ?_ ?_ ?_ ?_ ?_ ?_ (by simpa using take hd fun j b e => by omega)
          all_goals simp [hlen, e0, e1, e6, e7, e8]
      · obtain ⟨bb2, o2, hidx2, hr2⟩ := sl.at hj
        have s0 := hr2.cell0 hj (by omega)
        have s1 := hr2.cell hj 1 (by omega)
        simp [entC] at s0 s1
        have one : ∀ (j' : Nat) (b' : Int × Int), (j : Int) = j' → l[j']? = some b' → b' = b := fun j' b' e1 e2 => by
          obtain rfl : j = j' := by omega
          rw [hj] at e2
          simpa using e2.symm
        have hj0 : ¬ ((j : Int) < 0) := by omega
        by_cases c1 : y.2 < b.2
        · simp (config := { maxSteps := 4000000 }) [c41_r5, hlen, e0, e1, e7, e8, hidx, r0, r1, hd, hidx2, s0, s1, c1, hj0]
          refine ⟨?_, ?_⟩
          · (repeat' apply And.intro) <;>
            · refine chk_mem fun hh hm => ?_
              simp at hm
              subst hm
              simp [hlen, r0, r1, s0, s1]
          · refine fin2 _ _ true ?_ ?_ ?_ ?_ ?_ ?_ ?_ (by simpa using take hd fun j' b' e1 e2 => by rw [one j' b' e1 e2]; exact .inl c1)
            all_goals simp [hlen, e0, e1, e6, e7, e8]
        · by_cases c2 : y.2 = b.2
          · by_cases c3 : y.1 < b.1
            · simp (config := { maxSteps := 4000000 }) [c41_r5, hlen, e0, e1, e7, e8, hidx, r0, r1, hd, hidx2, s0, s1, c1, c2, c3, hj0, hbd]
              refine ⟨?_, ?_⟩
              · (repeat' apply And.intro) <;>
                · refine chk_mem fun hh hm => ?_
                  simp at hm
                  subst hm
                  simp [hlen, r0, r1, s0, s1, c2]
              · refine fin2 _ _ true ?_ ?_ ?_ ?_ ?_ ?_ ?_ (by simpa using take hd fun j' b' e1 e2 => by rw [one j' b' e1 e2]; exact .inr ⟨c2, c3⟩)
                all_goals simp [hlen, e0, e1, e6, e7, e8]
            · simp (config := { maxSteps := 4000000 }) [c41_r5, hlen, e0, e1, e7, e8, hidx, r0, r1, hd, hidx2, s0, s1, c1, c2, c3, hj0, hbd]
              refine ⟨?_, ?_⟩
              · (repeat' apply And.intro) <;>
                · refine chk_mem fun hh hm => ?_
                  simp at hm
                  subst hm
                  simp [hlen, r0, r1, s0, s1, c2]
              · refine fin2 _ _ false ?_ ?_ ?_ ?_ ?_ ?_ ?_ (by
                  simpa using keep fun _ => ⟨j, b, rfl, hj, by
                    by_cases c4 : b.1 = y.1
                    · exact .inl (Prod.ext c4 c2.symm)
                    · exact .inr (.inr ⟨c2.symm, by omega⟩)⟩)
                all_goals simp [hlen, e0, e1, e6, e7, e8]
          · have c2' : (y.2 == b.2) = false := by simpa using c2
            simp (config := { maxSteps := 4000000 }) [c41_r5, hlen, e0, e1, e7, e8, hidx, r0, r1, hd, hidx2, s0, s1, c1, c2', hj0]
            refine ⟨?_, ?_⟩
            · (repeat' apply And.intro) <;>
              · refine chk_mem fun hh hm => ?_
                simp at hm
                subst hm
                simp [hlen, r0, r1, s0, s1]
            · refine fin2 _ _ false ?_ ?_ ?_ ?_ ?_ ?_ ?_ (by simpa using keep fun _ => ⟨j, b, rfl, hj, .inr (.inl (by omega))⟩)
              all_goals simp [hlen, e0, e1, e6, e7, e8]
    · simp (config := { maxSteps := 4000000 }) [c41_r5, hlen, e0, e1, e7, e8, hidx, r0, r1, hd]
      refine ⟨?_, ?_⟩
      · refine chk_mem fun hh hm => ?_
        simp at hm
        subst hm
        simp [hlen, r1]
      · refine fin2 _ _ false ?_ ?_ ?_ ?_ ?_ ?_ ?_ (by simpa using keep fun hc => (hd hc).elim)
        all_goals simp [hlen, e0, e1, e6, e7, e8]
end Go.Proofs.Ytkbekibljcdbjaa.Ax
