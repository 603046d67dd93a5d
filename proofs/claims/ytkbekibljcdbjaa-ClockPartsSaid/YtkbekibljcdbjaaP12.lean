/- What Tick does, whatever order the map's entries come in. Conditions: as each theorem states. -/
import Derived.Test.YtkbekibljcdbjaaP11
namespace Go.Proofs.Ytkbekibljcdbjaa.Ax
open Go
set_option linter.unusedVariables false
set_option linter.unusedSimpArgs false

abbrev N0 (ac : ACode) (env : List AV) (h : AH) (Q : AExit → List AV → AH → Prop) : Prop := NCode Try.prog [] ac env h Q
theorem nofW {ac : ACode} {env : List AV} {h : AH} {Q : AExit → List AV → AH → Prop} (hw : WCode E0 false ac env h Q) : NCode Try.prog [] ac env h Q := NCode.ofW (noSum_sound _ _) (noMt_ok _) (by kernel_rfl) hw
theorem ncall0 {f : FuncId} {args : List AV} {h : AH} {Q : AV → AH → Prop} (hw : WCall E0 (.fn f) args h Q) : NCall Try.prog [] (.fn f) args h Q := NCall.ofW (noSum_sound _ _) (noMt_ok _) (by kernel_rfl) hw
theorem nregion {ops : List AOper} {env : List AV} {h : AH} {Q : AExit → List AV → AH → Prop} (hw : wpOps (NCall Try.prog []) noMt ops env h (NQ Q)) : NCode Try.prog [] (.region ops false) env h Q := NCode.region (noMt_ok _) hw

/-- A nil slice sorted. -/
theorem sort54nil {h : AH} {e' pc : Nat} {Q : AV → AH → Prop} (q : Q (.tuple []) h) : NCall Try.prog [] (.fn 54) [.slice none 0 0 e', .func (.func 55) [] [.ptr (some (pc, 0))]] h Q := by
  intro φ w0 w vs hvs hr
  have e54 : ∀ args w, (callFunc 54 args).run Try.prog w = .ok (.enter 54 args) w := enters_of Try.func54 (by kernel_rfl) rfl
  obtain ⟨l⟩ := vs
  simp only [VRs] at hvs
  obtain ⟨v1, l1, rfl, hv1, v2, l2, rfl, hv2, rfl⟩ := hvs
  refine .inl ⟨e54 _ _, ?_⟩
  obtain ⟨_, _, rfl⟩ := vr_sliceNil hv1
  refine Calls.mono (AnyF.slices_SortFunc_none { Try.sf6 with } none 0 v2 w) fun e w' ⟨he, hw⟩ => ?_
  subst he hw
  exact ⟨.tuple [], h, .tuple #[], φ, q, rfl, by simp [VR, VRs], hr, Stp.refl _ _⟩

/-- A row that grows, in a block of its own (none yet, where it is empty). -/
def OutS (h : AH) (N : Nat) (v : AV) (o : List Int) : Prop := (o = [] ∧ ∃ e', v = .slice none 0 0 e') ∨ ∃ F, IsSl h v 3 1 intC o F ∧ N ≤ F

theorem OutS.keep {h h' : AH} {N v o S} (hv : OutS h N v o) (k : Keep h h' S) (hS : ∀ x ∈ S, x < N) : OutS h' N v o := by
  rcases hv with h0 | ⟨F, h1, h2⟩
  · exact .inl h0
  · exact .inr ⟨F, h1.keep k (fun hm => by have := hS _ hm; omega), h2⟩

theorem OutS.append {h : AH} {N : Nat} {v x : AV} {o : List Int} {id : Int} (hv : OutS h N v o) (hN : N ≤ h.next) (ht : taken h 1 (fun n => n) x = some (1, [.int .i64 id])) (ho : o.length < 100000) :
    ∃ v' h' S, appendV h 3 1 8 v x = some (v', h') ∧ OutS h' N v' (o ++ [id]) ∧ Keep h h' S ∧ ∀ y ∈ S, N ≤ y := by
  rcases hv with ⟨rfl, e', rfl⟩ | ⟨F, h1, h2⟩
  · refine ⟨.slice (some (h.next, 0)) 1 1 1, h.row [.int .i64 id] 3 true, [], by simp [appendV_slice, ht, appendTo, room, maxText, flat], .inr ⟨h.next, ?_, hN⟩, Keep.row _ _ _ _ _, by simp⟩
    exact IsSl.one h 3 (f := intC) (fun _ => rfl) (fun _ => rfl) id
  · obtain ⟨v', h', F', a, b, c, d⟩ := h1.append (bytes := 8) (M := [id]) (by simpa [intC] using ht) (by simp [room, maxText]; omega)
    refine ⟨v', h', [F], a, .inr ⟨F', b, ?_⟩, c, by simpa using h2⟩
    rcases d with rfl | rfl
    · exact h2
    · exact hN

theorem OutS.len {h N v o} (hv : OutS h N v o) : lenSliceV v = some (.int .i64 o.length) := by
  rcases hv with ⟨rfl, e', rfl⟩ | ⟨F, h1, h2⟩
  · rfl
  · exact h1.lenV

def atM (l : ML) (k : Int) : Int := (mget l k).getD 0

theorem srt_mem (f : Int → Int) (o : List Int) (x : Int) : x ∈ srt f o ↔ x ∈ o := (List.mergeSort_perm o _).mem_iff
theorem srt_len (f : Int → Int) (o : List Int) : (srt f o).length = o.length := (List.mergeSort_perm o _).length_eq
theorem srt_sorted (f : Int → Int) {o : List Int} (ho : o.Nodup) : (srt f o).Pairwise (lx f) := by
  have hn : (srt f o).Nodup := (List.mergeSort_perm o _).nodup_iff.2 ho
  have hp : (srt f o).Pairwise fun a b => (!(Go.Proofs.ltOf (cfT f)) b a) = true := by
    refine List.pairwise_mergeSort (fun a b c h1 h2 => ?_) (fun a b => ?_) o
    · rw [ltT] at *; simp at *; omega
    · rw [ltT, ltT]; simp; omega
  refine (hp.and hn).imp fun {a b} ⟨h1, h2⟩ => ?_
  rw [ltT] at h1
  simp at h1
  unfold lx
  omega

theorem entry_ME {h : AH} {it m : Nat} {l : ML} {c : Nat} {seen : List Nat} {r : Int × Int × Nat} (hi : h.get it = .mapIter (some m) c (seen ++ [r.2.2]) c) (hm : h.get m = .map (ME l) c) (hr : r ∈ l) (hb : (l.map (·.2.2)).Nodup) :
    entryV h (.ptr (some (it, 0))) = some (.tuple [.int .i64 r.1, .int .i64 r.2.1], h) := by
  have hf : ∀ l : ML, r ∈ l → (l.map (·.2.2)).Nodup → (ME l).find? (fun e => e.2.2 == r.2.2) = some (.int .i64 r.1, .int .i64 r.2.1, r.2.2) := by
    intro l
    induction l with
    | nil => intro h; simp at h
    | cons q l ih =>
      intro hr hb
      simp only [ME, List.map_cons, List.find?_cons]
      rw [List.map_cons, List.nodup_cons] at hb
      rcases List.mem_cons.1 hr with e | e
      · subst e; simp
      · have : (q.2.2 == r.2.2) = false := by
          have : q.2.2 ≠ r.2.2 := fun x => hb.1 (List.mem_map.2 ⟨r, e, x.symm⟩)
          simpa using this
        rw [this]
        exact ih e hb.2
  simp only [entryV, evalStrong, AOpd.ev, List.getD_cons_zero, hi, hm, if_true, List.getLast?_concat]
  rw [hf l hr hb]
  rfl

theorem rangeMap_ME {h : AH} {m : Nat} {l : ML} {c : Nat} (hm : h.get m = .map (ME l) c) : rangeMapV h (.map (some m)) = some (.ptr (some (h.next, 0)), h.push (.mapIter (some m) c [] c)) := by
  simp only [rangeMapV, evalStrong, AOpd.ev, List.getD_cons_zero, hm]

/-- What Tick answers, and who is left. -/
structure TickOk (l : ML) (now : Int) (s : List Int) (l' : ML) : Prop where
  sorted : s.Pairwise (lx (atM l))
  mem : ∀ id, id ∈ s ↔ ∃ t, mget l id = some t ∧ t ≤ now
  rest : ∀ id, mget l' id = if id ∈ s then none else mget l id
  len : l'.length ≤ l.length

theorem Keep.setIter {h : AH} {b : Nat} {a : Option Nat} {x : Nat} {y : List Nat} {z : Nat} (hg : h.get b = .mapIter a x y z) (n : ABlk) : Keep h (h.set b n) [b] := by
  refine ⟨Nat.le_refl _, fun q hq hn hS => ?_⟩
  by_cases e : b = q
  · subst e; rw [hg] at hS; simp [nameOf] at hS
  · exact AH.get_set_other e _

theorem Keep.iter {h h' : AH} {S : List Nat} (a : Keep h h' S) {m : Nat} {x : Option Nat} {y : Nat} {z : List Nat} {u : Nat} (hm : h.get m = .mapIter x y z u) (hS : m ∉ S) : h'.get m = .mapIter x y z u := by
  rw [a.old m (by rw [hm]; simp) (by rw [hm]; exact get_lt_next hm (by simp)) (by rw [hm]; exact hS), hm]

theorem tick43n {h : AH} {n : Int} {Q : AV → AH → Prop} (q : Q (.slice none 0 0 0) h) : WCall E0 (.fn 43) [.ptr none, .int .i64 n] h Q := by
  refine call0 F43 (WCode.seq (WCode.region ?_))
  simp [c43, c43_r0]
  refine WCode.seq (WCode.seq (WCode.region ?_))
  simp [c43_r1]
  refine WCode.condT (by simp) (WCode.seq (WCode.region ?_))
  simp [c43_r2]
  refine WCode.ret ?_
  simp
  exact q

/-- On the way through the map. -/
structure MidOk (l : ML) (now : Int) (seen : List Nat) (o : List Int) (A : ML) : Prop where
  once : o.Nodup
  mem : ∀ id, id ∈ o ↔ ∃ t b, (id, t, b) ∈ l ∧ b ∈ seen ∧ t ≤ now
  at_ : ∀ id ∈ o, mget A id = mget l id

theorem born_eq {l : ML} (hb : (l.map (·.2.2)).Nodup) {a b : Int × Int × Nat} (ha : a ∈ l) (hc : b ∈ l) (e : a.2.2 = b.2.2) : a = b := by
  induction l with
  | nil => simp at ha
  | cons q l ih =>
    rw [List.map_cons, List.nodup_cons] at hb
    rcases List.mem_cons.1 ha with h1 | h1 <;> rcases List.mem_cons.1 hc with h2 | h2
    · rw [h1, h2]
    · subst h1; exact (hb.1 (List.mem_map.2 ⟨b, h2, e.symm⟩)).elim
    · subst h2; exact (hb.1 (List.mem_map.2 ⟨a, h1, e⟩)).elim
    · exact ih hb.2 h1 h2

theorem MidOk.skip {l now seen o A} (h : MidOk l now seen o A) (hb : (l.map (·.2.2)).Nodup) {r : Int × Int × Nat} (hr : r ∈ l) (hd : ¬ r.2.1 ≤ now) : MidOk l now (seen ++ [r.2.2]) o A := by
  refine ⟨h.once, fun id => ?_, h.at_⟩
  rw [h.mem id]
  constructor
  · rintro ⟨t, b, h1, h2, h3⟩; exact ⟨t, b, h1, by simp [h2], h3⟩
  · rintro ⟨t, b, h1, h2, h3⟩
    refine ⟨t, b, h1, ?_, h3⟩
    rcases List.mem_append.1 h2 with h2 | h2
    · exact h2
    · obtain rfl := List.mem_singleton.1 h2
      have : r = (id, t, r.2.2) := born_eq hb hr h1 rfl
      rw [this] at hd
      exact (hd h3).elim

theorem MidOk.take {l now seen o A} (h : MidOk l now seen o A) (ho : Once l) (hb : (l.map (·.2.2)).Nodup) {r : Int × Int × Nat} (hr : r ∈ l) (hns : r.2.2 ∉ seen) (hd : r.2.1 ≤ now) (c : Nat) : MidOk l now (seen ++ [r.2.2]) (o ++ [r.1]) (mset A r.1 r.2.1 c) := by
  have hno : r.1 ∉ o := fun hc => by
    obtain ⟨t, b, h1, h2, h3⟩ := (h.mem _).1 hc
    have g1 := (mget_mem ho (k := r.1) (t := t)).2 ⟨b, h1⟩
    have g2 := (mget_mem ho (k := r.1) (t := r.2.1)).2 ⟨r.2.2, hr⟩
    have : b = r.2.2 := by
      have hk : ∀ (l : ML), Once l → ∀ x y : Int × Int × Nat, x ∈ l → y ∈ l → x.1 = y.1 → x = y := by
        intro l
        induction l with
        | nil => intro _ x y hx; simp at hx
        | cons q l ih =>
          intro ho x y hx hy e
          have ho2 := List.nodup_cons.1 ho
          rcases List.mem_cons.1 hx with h1 | h1 <;> rcases List.mem_cons.1 hy with h2 | h2
          · rw [h1, h2]
          · subst h1; exact (ho2.1 (List.mem_map.2 ⟨y, h2, e.symm⟩)).elim
          · subst h2; exact (ho2.1 (List.mem_map.2 ⟨x, h1, e⟩)).elim
          · exact ih ho2.2 x y h1 h2 e
      have := hk l ho _ _ h1 hr rfl
      exact congrArg (·.2.2) this
    subst this
    exact hns h2
  refine ⟨List.nodup_append.2 ⟨h.once, by simp, fun a ha b hb' => ?_⟩, fun id => ?_, fun id hid => ?_⟩
  · obtain rfl := List.mem_singleton.1 hb'
    exact fun e => hno (e ▸ ha)
  · rw [List.mem_append, List.mem_singleton, h.mem id]
    constructor
    · rintro (⟨t, b, h1, h2, h3⟩ | rfl)
      · exact ⟨t, b, h1, by simp [h2], h3⟩
      · exact ⟨r.2.1, r.2.2, hr, by simp, hd⟩
    · rintro ⟨t, b, h1, h2, h3⟩
      rcases List.mem_append.1 h2 with h2 | h2
      · exact .inl ⟨t, b, h1, h2, h3⟩
      · obtain rfl := List.mem_singleton.1 h2
        have : r = (id, t, r.2.2) := born_eq hb hr h1 rfl
        exact .inr (by rw [this])
  · rw [mset_get]
    rcases List.mem_append.1 hid with h1 | h1
    · rw [if_neg (fun e => hno (by rw [← e]; exact h1))]
      exact h.at_ id h1
    · obtain rfl := List.mem_singleton.1 h1
      rw [if_pos rfl, (mget_mem ho).2 ⟨r.2.2, hr⟩]

/-- How many are left to see. -/
def unseen (l : ML) (seen : List Nat) : Nat := (l.filter fun r => !seen.contains r.2.2).length

theorem unseen_lt {l : ML} {seen : List Nat} {r : Int × Int × Nat} (hr : r ∈ l) (hns : r.2.2 ∉ seen) : unseen l (seen ++ [r.2.2]) < unseen l seen := by
  have key : ∀ l : ML, unseen l (seen ++ [r.2.2]) ≤ unseen l seen ∧ (r ∈ l → unseen l (seen ++ [r.2.2]) < unseen l seen) := by
    intro l
    induction l with
    | nil => simp [unseen]
    | cons q l ih =>
      obtain ⟨i1, i2⟩ := ih
      unfold unseen at i1 i2 ⊢
      simp only [List.filter_cons]
      by_cases c1 : q.2.2 ∈ seen
      · have e1 : (!(seen.contains q.2.2)) = false := by simp [c1]
        have e2 : (!((seen ++ [r.2.2]).contains q.2.2)) = false := by simp [c1]
        simp only [e1, e2, Bool.false_eq_true, if_false]
        refine ⟨i1, fun hm => ?_⟩
        rcases List.mem_cons.1 hm with e | e
        · subst e; exact (hns c1).elim
        · exact i2 e
      · have e1 : (!(seen.contains q.2.2)) = true := by simp [c1]
        simp only [e1, if_true, List.length_cons]
        by_cases c2 : q.2.2 = r.2.2
        · have e2 : (!((seen ++ [r.2.2]).contains q.2.2)) = false := by simp [c2]
          simp only [e2, Bool.false_eq_true, if_false]
          exact ⟨by omega, fun _ => by omega⟩
        · have e2 : (!((seen ++ [r.2.2]).contains q.2.2)) = true := by simp [c1, c2]
          simp only [e2, if_true, List.length_cons]
          refine ⟨by omega, fun hm => ?_⟩
          rcases List.mem_cons.1 hm with e | e
          · subst e; exact (c2 rfl).elim
          · have := i2 e; omega
  exact (key l).2 hr

/-- In the range over the map. -/
structure TickInv (h0 : AH) (p m c pc a it N : Nat) (l : ML) (now : Int) (k : Nat) (env : List AV) (h : AH) : Prop where
  elen : env.length = 62
  ex : ∃ seen o A cA, slot env 0 = .ptr (some (p, 0)) ∧ slot env 6 = .ptr (some (pc, 0)) ∧ slot env 27 = .ptr (some (it, 0)) ∧ OutS h N (slot env 5) o ∧ h.get it = .mapIter (some m) c seen c ∧ ClockAt h p m l c now ∧
    h.get pc = .cells [some (.map (some a))] 101 pc 0 false false true ∧ h.get a = .map (ME A) cA ∧ MidOk l now seen o A ∧ k = unseen l seen ∧ o.length + k ≤ l.length ∧ N ≤ h.next ∧ Keep h0 h [p]

set_option maxHeartbeats 2000000 in
theorem tick43 {h : AH} {p m : Nat} {l : ML} {c : Nat} {now n : Int} {Q : AV → AH → Prop} (k : ClockAt h p m l c now) (hb : -281474976710656 ≤ now ∧ now < 4611686018427387904) (hl : l.length < 100000)
    (q : ∀ v h' F s l' c', ClockAt h' p m l' c' (now + within n) → IsSl h' v 3 1 intC s F → Keep h h' [p, m] → h.next ≤ F → TickOk l (now + within n) s l' → Q v h') : NCall Try.prog [] (.fn 43) [.ptr (some (p, 0)), .int .i64 n] h Q := by
  refine NCall.fn F43 ?_
  refine NCode.seq (nregion ?_)
  simp [c43, c43_r0]
  refine NCode.seq (NCode.seq (nregion ?_))
  simp [c43_r1]
  refine NCode.condF (by simp) (NCode.skip ?_)
  simp
  refine NCode.seq (nofW (WCode.draw ?_))
  simp [c43_r3, cell1_of k.hp]
  refine within53 ?_
  have w := within_b n
  simp
  rw [wrap_i64 (by omega) (by omega)]
  have hst : storeV h 1 (.ptr (some (p, 0))) (.int .i64 (now + within n)) = some (h.set p (.cells [some (.int .i64 (now + within n)), some (.map (some m))] 103 p 0 false false true)) :=
    storeV_alone k.hp rfl (by simp) rfl
  refine BQ.of hst ?_
  have hdp : h.get p ≠ .dead := by rw [k.hp]; simp
  have kp := Keep.set k.hp (.cells [some (.int .i64 (now + within n)), some (.map (some m))] 103 p 0 false false true)
  have k1 : ClockAt (h.set p (.cells [some (.int .i64 (now + within n)), some (.map (some m))] 103 p 0 false false true)) p m l c (now + within n) :=
    ⟨k.ne, AH.get_set_same hdp _, by rw [AH.get_set_other k.ne]; exact k.hm, k.once, k.old, k.born⟩
  have hn1 : (h.set p (.cells [some (.int .i64 (now + within n)), some (.map (some m))] 103 p 0 false false true)).next = h.next := rfl
  generalize (h.set p (.cells [some (.int .i64 (now + within n)), some (.map (some m))] 103 p 0 false false true)) = h1 at *
  simp
  refine ⟨chk_of fun i hh h1 h2 hi => ?_, ?_⟩
  · have : hh = h := by
      rcases i with _ | _ | i
      · simpa using hi.symm
      · simpa using hi.symm
      · omega
    subst this
    simp [cell1_of k.hp]
  generalize hnow : now + within n = now' at *
  refine NCode.seq (nregion ?_)
  simp [c43_r4]
  refine NCode.seq (nregion ?_)
  simp [c43_r5]
  have ka := Keep.push h1 (.map [] 0) []
  have kb := Keep.row (h1.push (.map [] 0)) [.map none] 101 true []
  have gpc : ((h1.push (.map [] 0)).row [AV.map none] 101 true).get (h1.next + 1) = .cells [some (.map none)] 101 (h1.next + 1) 0 false false true := get_row_new _ _ _ _ _ rfl
  have ga : ((h1.push (.map [] 0)).row [AV.map none] 101 true).get h1.next = .map (ME []) 0 := kb.map (get_push_new h1 _ _ rfl) (by simp)
  have hn2 : ((h1.push (.map [] 0)).row [AV.map none] 101 true).next = h1.next + 2 := rfl
  have k2 := ka.trans kb (U := []) (by simp) (by simp)
  generalize ((h1.push (.map [] 0)).row [AV.map none] 101 true) = h2 at *
  have hdpc : h2.get (h1.next + 1) ≠ .dead := by rw [gpc]; simp
  refine BQ.of (storeV_one (x := .map (some h1.next)) gpc ⟨rfl, rfl⟩) ?_
  have k3 := Keep.set gpc (.cells [some (.map (some h1.next))] 101 (h1.next + 1) 0 false false true)
  have gpc3 : (h2.set (h1.next + 1) (.cells [some (.map (some h1.next))] 101 (h1.next + 1) 0 false false true)).get (h1.next + 1) = .cells [some (.map (some h1.next))] 101 (h1.next + 1) 0 false false true := AH.get_set_same hdpc _
  have ga3 : (h2.set (h1.next + 1) (.cells [some (.map (some h1.next))] 101 (h1.next + 1) 0 false false true)).get h1.next = .map (ME []) 0 := by rw [AH.get_set_other (by omega)]; exact ga
  have hn3 : (h2.set (h1.next + 1) (.cells [some (.map (some h1.next))] 101 (h1.next + 1) 0 false false true)).next = h1.next + 2 := hn2
  have hlt := k.lt
  have kk3 : Keep h1 (h2.set (h1.next + 1) (.cells [some (.map (some h1.next))] 101 (h1.next + 1) 0 false false true)) [] := k2.trans k3 (by simp) (by simp)
  generalize (h2.set (h1.next + 1) (.cells [some (.map (some h1.next))] 101 (h1.next + 1) 0 false false true)) = h3 at *
  have c3 := k1.keep kk3 (by simp) (by simp)
  simp
  refine NCode.seq (NCode.seq (nregion ?_))
  simp [c43_r6, cell1_of c3.hp]
  refine BQ.of (rangeMap_ME c3.hm) ?_
  have k4 := Keep.push h3 (.mapIter (some m) c [] c) []
  have git : (h3.push (.mapIter (some m) c [] c)).get h3.next = .mapIter (some m) c [] c := get_push_new _ _ _ rfl
  have ga4 : (h3.push (.mapIter (some m) c [] c)).get h1.next = .map (ME []) 0 := k4.map ga3 (by simp)
  have gpc4 := k4.cells gpc3 (by omega) (by simp)
  have c4 := c3.keep k4 (by simp) (by simp)
  have kk4 : Keep h (h3.push (.mapIter (some m) c [] c)) [p] := kp.trans (kk3.trans k4 (U := []) (by simp) (by simp)) (by simp) (by simp)
  have hn4 : (h3.push (.mapIter (some m) c [] c)).next = h1.next + 3 := by simp [hn3]
  rw [hn3] at git ⊢
  generalize (h3.push (.mapIter (some m) c [] c)) = h4 at *
  simp
  refine NCode.block (NCode.loop (TickInv h p m c (h1.next + 1) h1.next (h1.next + 2) (h1.next + 3) l now') ?_ (unseen l []) _ _ ⟨rfl, [], [], [], 0, rfl, rfl, by simp [slot_zero, slot_succ], .inl ⟨rfl, 0, rfl⟩, git, c4, gpc4, ga4, ⟨List.nodup_nil, by simp, by simp⟩, rfl, by simpa [unseen] using List.length_filter_le _ _, by omega, kk4⟩)
  clear hst kp k1 ka kb gpc ga hn2 k2 hdpc k3 gpc3 ga3 kk3 c3 k4 git ga4 gpc4 c4 kk4 hn4
  rw [hn1]
  rw [hn1] at hn3
  generalize ha : h.next = a at *
  rintro kk env h' ⟨hlen, seen, o, A, cA, e0, e6, e27, ho, gi, ck, gpc, ga, hmid, rfl, hol, hN, kp⟩
  refine NCode.seq (NCode.next (noMt_ok _) (r := a + 2) (m := m) (since := c) (last := c) (seen := seen) (es := ME l) (clock := c) (by simp [e27]) gi ck.hm (fun e he => ?_) (Nat.le_refl _) (fun hall => ?_) (fun e he hns => ?_))
  · obtain ⟨r, hr, rfl⟩ := List.mem_map.1 he
    exact ck.old r hr
  · -- all are seen
    simp [hlen]
    refine NCode.seq (NCode.condF (by simp [hlen]) (NCode.exit ?_))
    simp
    have hmem : ∀ id, id ∈ o ↔ ∃ t, mget l id = some t ∧ t ≤ now' := fun id => by
      rw [hmid.mem id]
      constructor
      · rintro ⟨t, b, h1, h2, h3⟩; exact ⟨t, (mget_mem ck.once).2 ⟨b, h1⟩, h3⟩
      · rintro ⟨t, h1, h2⟩
        obtain ⟨b, hb⟩ := (mget_mem ck.once).1 h1
        exact ⟨t, b, hb, hall (.int .i64 id, .int .i64 t, b) (List.mem_map.2 ⟨_, hb, rfl⟩), h2⟩
    have hsorted : (srt (fun z => (mget A z).getD 0) o).Pairwise (lx (atM l)) := lx_congr (fun x hx => by
      have := hmid.at_ x ((srt_mem _ _ _).1 hx)
      unfold atM; rw [this]) (srt_sorted _ hmid.once)
    -- behind the sort
    have after : ∀ (env2 : List AV) (v : AV) (h6 : AH) (s : List Int) (F : Nat), env2.length = 62 → slot env2 0 = .ptr (some (p, 0)) → slot env2 5 = v → IsSl h6 v 3 1 intC s F → a ≤ F → s.length < 100000 → ClockAt h6 p m l c now' → Keep h h6 [p] → s.Pairwise (lx (atM l)) → (∀ id, id ∈ s ↔ ∃ t, mget l id = some t ∧ t ≤ now') →
        NCode Try.prog [] (.seq (.seq (.region c43_r14 false) (.block 2 (.loop c43_l19))) (.seq (.region c43_r20 false) .ret)) env2 h6 (BodyQ [(4, none)] Q) := by
      intro env2 v h6 s F l2 a0 a5 hs6 hFa hsl c6 k6 hso hme
      refine NCode.seq (nofW (WCode.seq (WCode.region ?_)))
      simp [c43_r14, l2, a5, hs6.lenV]
      refine WCode.block (WCode.loop (Inv := fun mm env3 h7 => mm ≤ s.length ∧ env3.length = 62 ∧ slot env3 0 = .ptr (some (p, 0)) ∧ slot env3 5 = v ∧ slot env3 49 = v ∧ slot env3 50 = .int .i64 s.length ∧ slot env3 51 = .int .i64 ((s.length - mm : Nat) : Int) ∧
          ∃ l', ClockAt h7 p m l' c now' ∧ (∀ id, mget l' id = if id ∈ s.take (s.length - mm) then none else mget l id) ∧ l'.length ≤ l.length ∧ Keep h6 h7 [m]) ?_ s.length _ _
        ⟨Nat.le_refl _, by simp [l2], by simp [a0], by simp [a5], by simp [l2], by simp [l2], by simp [l2], l, c6, by simp, Nat.le_refl _, Keep.refl _ _⟩)
      rintro mm env3 h7 ⟨hmm, l3, b0, b5, b49, b50, b51, l', c7, hg7, hl7, k7⟩
      refine WCode.seq (WCode.region ?_)
      simp [c43_r15, l3, b50, b51]
      cases mm with
      | zero =>
        refine WCode.seq (WCode.condF (by simp [l3]) (WCode.exit ?_))
        simp
        refine NCode.seq (nregion ?_)
        simp [c43_r20, l3, b5]
        refine NCode.ret ?_
        simp [l3]
        refine q v h7 F s l' c c7 (hs6.keep k7 (by simp; omega)) (k6.trans k7 (by simp) (by simp)) hFa ⟨hso, hme, fun id => by simpa using hg7 id, hl7⟩
      | succ mm =>
        refine WCode.seq (WCode.condT (by simp [l3]; omega) (WCode.skip ?_))
        simp
        have hs7 := hs6.keep k7 (by simp; omega)
        obtain ⟨y, hy⟩ : ∃ y, s[s.length - (mm + 1)]? = some y := ⟨s[s.length - (mm + 1)]'(by omega), List.getElem?_eq_getElem (by omega)⟩
        have htake : s.take (s.length - mm) = s.take (s.length - (mm + 1)) ++ [y] := by
          rw [show s.length - mm = s.length - (mm + 1) + 1 by omega, List.take_add_one, hy]; rfl
        obtain ⟨bb, oo, hidx, hrr⟩ := hs7.at hy
        have r0 := hrr.cell0 hy (by omega)
        have i1 : ∀ k, idxAddrV 1 v (.int k (s.length - (mm + 1) : Nat)) = some (.ptr (some (bb, oo + (s.length - (mm + 1))))) := fun k => by simpa using hidx k
        simp [intC] at r0
        refine WCode.seq (WCode.block (WCode.seq (WCode.region ?_)))
        simp [c43_r16, l3, b49, b51, i1, r0]
        refine WCode.region ?_
        simp [c43_r17, l3, b0, cell1_of c7.hp]
        obtain ⟨h8, e, g8, k8, hn8⟩ := deleteV_ME c7.hm y
        refine BQ.of e ?_
        simp
        refine WCode.region ?_
        simp [c43_r18, l3, b51]
        refine ⟨mm, by omega, by omega, by simp [b0], by simp [b5], by simp [b49], by simp [b50], ?_, mdel l' y, c7.del y g8 k8, fun id => ?_, Nat.le_trans (mdel_sub l' y).length_le hl7, k7.trans k8 (by simp) (by simp)⟩
        · rw [wrap_i64 (by omega) (by omega)]; omega
        · rw [mdel_get c7.once, hg7 id, htake]
          by_cases e : id = y
          · simp [e]
          · simp [e]
    rcases ho with ⟨rfl, e', hv⟩ | ⟨F, hs, hFN⟩
    · refine NCode.seq (nregion ?_)
      simp [c43_r13, hlen, e6, hv]
      refine sort54nil ?_
      simp
      have hs0 : IsSl h' (.slice none 0 0 e') 3 1 intC [] a := ⟨by omega, fun _ => rfl, fun _ => rfl, .inl ⟨rfl, e', rfl⟩⟩
      exact after _ (.slice none 0 0 e') h' [] a (by simp [hlen]) (by simp [e0]) (by simp [hv]) hs0 (Nat.le_refl _) (by simp) ck kp List.Pairwise.nil hmem
    · refine NCode.seq (nregion ?_)
      simp [c43_r13, hlen, e6]
      refine sort54 hs gpc ga (by omega) (by omega) (by omega) fun h6 hs6 k6 hn6 => ?_
      simp
      exact after _ (slot env 5) h6 _ F (by simp [hlen]) (by simp [e0]) (by simp [hlen]) hs6 (by omega) (by rw [srt_len]; omega) (ck.keep k6 (by simp; omega) (by simp; omega)) (kp.trans k6 (by simp) (by simp; omega)) hsorted fun id => by rw [srt_mem]; exact hmem id
  · obtain ⟨r, hr, rfl⟩ := List.mem_map.1 he
    simp only at hns
    simp [hlen]
    refine NCode.seq (NCode.condT (by simp [hlen]) (NCode.skip ?_))
    simp
    have hgi' : (h'.set (a + 2) (.mapIter (some m) c (seen ++ [r.2.2]) c)).get (a + 2) = .mapIter (some m) c (seen ++ [r.2.2]) c := AH.get_set_same (by rw [gi]; simp) _
    have k5 := Keep.setIter gi (.mapIter (some m) c (seen ++ [r.2.2]) c)
    have ck5 := ck.keep k5 (by simp; omega) (by simp; omega)
    have gpc5 := k5.cells gpc (by omega) (by simp)
    have ga5 := k5.map ga (by simp)
    have ho5 := ho.keep k5 (by simp)
    have hN5 : a + 3 ≤ (h'.set (a + 2) (.mapIter (some m) c (seen ++ [r.2.2]) c)).next := hN
    have kp5 : Keep h (h'.set (a + 2) (.mapIter (some m) c (seen ++ [r.2.2]) c)) [p] := kp.trans k5 (by simp) (by simp; omega)
    generalize (h'.set (a + 2) (.mapIter (some m) c (seen ++ [r.2.2]) c)) = h5 at *
    have hent := entry_ME hgi' ck5.hm hr ck.born
    refine NCode.block (NCode.seq (nregion ?_))
    simp [c43_r8, hlen, e27, hent]
    refine NCode.seq (nregion ?_)
    simp [c43_r9, hlen, e0, cell1_of ck5.hp]
    have hlt' := unseen_lt hr hns
    by_cases hd : r.2.1 ≤ now'
    · refine NCode.condT (by simp [hlen, hd]) (NCode.seq (nregion ?_))
      simp [c43_r10, hlen, e6, cell1_of gpc5]
      obtain ⟨h6, e, g6, k6, hn6⟩ := mapUpdV_ME ga5 r.1 r.2.1
      refine BQ.of e ?_
      simp
      refine nregion ?_
      simp [c43_r11, hlen]
      have k7 := Keep.row h6 [.int .i64 r.1] 3 true []
      have s7 : IsSl (h6.row [.int .i64 r.1] 3 true) (.slice (some (h6.next, 0)) 1 1 1) 3 1 intC [r.1] h6.next := IsSl.one h6 3 (f := intC) (fun _ => rfl) (fun _ => rfl) r.1
      have ho7 : OutS (h6.row [.int .i64 r.1] 3 true) (a + 3) (slot env 5) o := (ho5.keep k6 (by simp)).keep k7 (by simp)
      obtain ⟨v', h8, S8, ea, ho8, k8, hS8⟩ := ho7.append (x := .slice (some (h6.next, 0)) 1 1 1) (id := r.1) (by simp; omega) (by simpa [intC] using s7.taken) (by omega)
      refine BQ.of ea ?_
      have k68 : Keep h5 h8 (a :: S8) := k6.trans (k7.trans k8 (U := S8) (by simp) (fun x hx _ => hx)) (by simp) (fun x hx _ => List.mem_cons_of_mem _ hx)
      have hnm : ∀ x, x < a + 3 → x ≠ a → x ∉ a :: S8 := fun x hx hxa hm => by
        rcases List.mem_cons.1 hm with h | h
        · exact hxa h
        · have := hS8 x h; omega
      have k78 : Keep h6 h8 S8 := k7.trans k8 (by simp) (fun x hx _ => hx)
      have hnS : a ∉ S8 := fun hm => by have := hS8 a hm; omega
      simp
      refine ⟨_, hlt', ⟨by simp [hlen], seen ++ [r.2.2], o ++ [r.1], mset A r.1 r.2.1 cA, _, by simp [e0], by simp [e6], by simp [e27], by simpa [hlen] using ho8, k68.iter hgi' (hnm _ (by omega) (by omega)), ck5.keep k68 (hnm _ (by omega) (by omega)) (hnm _ (by omega) (by omega)),
        k68.cells gpc5 (by omega) (hnm _ (by omega) (by omega)), k78.map g6 hnS, hmid.take ck.once ck.born hr hns hd cA, rfl, by simp; omega, by have := k68.next; omega, kp5.trans k68 (by simp) (fun x hx hxn => ?_)⟩⟩
      rcases List.mem_cons.1 hx with h | h
      · omega
      · have := hS8 x h; omega
    · refine NCode.condF (by simp [hlen, hd]) (NCode.skip ?_)
      simp
      exact ⟨_, hlt', ⟨by simp [hlen], seen ++ [r.2.2], o, A, cA, by simp [e0], by simp [e6], by simp [e27], by simpa [hlen] using ho5, hgi', ck5, gpc5, ga5, hmid.skip ck.born hr hd, rfl, by omega, hN5, kp5⟩⟩
end Go.Proofs.Ytkbekibljcdbjaa.Ax
