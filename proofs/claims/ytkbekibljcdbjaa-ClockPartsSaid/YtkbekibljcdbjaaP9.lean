/- Maps of ints in the evaluator: one rule for each operation; what the clock's functions do (but Tick). Conditions: as each theorem states. -/
import Derived.Test.YtkbekibljcdbjaaP8
namespace Go.Proofs.Ytkbekibljcdbjaa.Ax
open Go
set_option linter.unusedVariables false
set_option linter.unusedSimpArgs false

section ops
variable {C : CallP} {mt : Methods} {env : List AV} {h : AH} {Q : AV → AH → Prop}
def lookupV (h : AH) (ke : EqTy) (z : AV) (ok : Bool) (m k : AV) : Option AV := evalWeak [m, k] h (.lookup ke z ok (.tmp 0) (.tmp 1))
@[simp] theorem wp_lookup {ke : EqTy} {z : AV} {ok : Bool} {m k : AOpd} : wpOp C mt (.lookup ke z ok m k) env h Q = BQ (lookupV h ke z ok (m.ev env) (k.ev env)) (vK Q h) := nr rfl
def mapUpdV (h : AH) (ke : EqTy) (m k v : AV) : Option (AV × AH) := evalStrong noMt noCall [m, k, v] h (.mapUpd ke (.tmp 0) (.tmp 1) (.tmp 2))
@[simp] theorem wp_mapUpd {ke : EqTy} {m k v : AOpd} : wpOp C mt (.mapUpd ke m k v) env h Q = BQ (mapUpdV h ke (m.ev env) (k.ev env) (v.ev env)) (rK Q) := nr rfl
def deleteV (h : AH) (ke : EqTy) (m k : AV) : Option (AV × AH) := evalStrong noMt noCall [m, k] h (.delete ke (.tmp 0) (.tmp 1))
@[simp] theorem wp_delete {ke : EqTy} {m k : AOpd} : wpOp C mt (.delete ke m k) env h Q = BQ (deleteV h ke (m.ev env) (k.ev env)) (rK Q) := nr rfl
def rangeMapV (h : AH) (m : AV) : Option (AV × AH) := evalStrong noMt noCall [m] h (.rangeMap (.tmp 0))
@[simp] theorem wp_rangeMap {m : AOpd} : wpOp C mt (.rangeMap m) env h Q = BQ (rangeMapV h (m.ev env)) (rK Q) := nr rfl
def entryV (h : AH) (it : AV) : Option (AV × AH) := evalStrong noMt noCall [it] h (.entry (.tmp 0))
@[simp] theorem wp_entry {m : AOpd} : wpOp C mt (.entry m) env h Q = BQ (entryV h (m.ev env)) (rK Q) := nr rfl
end ops

def mset (l : ML) (k t : Int) (c : Nat) : ML :=
  match l with
  | [] => [(k, t, c)]
  | r :: l => if r.1 = k then (k, t, r.2.2) :: l else r :: mset l k t c
def mdel (l : ML) (k : Int) : ML :=
  match l with
  | [] => []
  | r :: l => if r.1 = k then l else r :: mdel l k

theorem mset_get (l : ML) (k t : Int) (c : Nat) (j : Int) : mget (mset l k t c) j = if j = k then some t else mget l j := by
  induction l with
  | nil => simp only [mset, mget, eq_comm]
  | cons r l ih =>
    by_cases e : r.1 = k
    · by_cases f : j = k
      · subst f; simp [mset, e, mget]
      · have f' : ¬ k = j := fun x => f x.symm
        simp [mset, e, mget, f, f']
    · by_cases f : j = k
      · subst f; simp [mset, e, mget, ih]
      · simp [mset, e, mget, f, ih]

theorem mset_mem {l : ML} {k t : Int} {c : Nat} {r : Int × Int × Nat} (h : r ∈ mset l k t c) : r ∈ l ∨ r = (k, t, c) ∨ ∃ r' ∈ l, r.1 = r'.1 ∧ r.2.2 = r'.2.2 := by
  induction l with
  | nil => simp [mset] at h; exact .inr (.inl h)
  | cons q l ih =>
    by_cases e : q.1 = k
    · simp [mset, e] at h
      rcases h with rfl | h
      · exact .inr (.inr ⟨q, by simp, e.symm, rfl⟩)
      · exact .inl (by simp [h])
    · simp [mset, e] at h
      rcases h with rfl | h
      · exact .inl (by simp)
      · rcases ih h with h | h | ⟨r', h1, h2⟩
        · exact .inl (by simp [h])
        · exact .inr (.inl h)
        · exact .inr (.inr ⟨r', by simp [h1], h2⟩)

theorem mset_keys (l : ML) (k t : Int) (c : Nat) : (mset l k t c).map (·.1) = if mget l k = none then l.map (·.1) ++ [k] else l.map (·.1) := by
  induction l with
  | nil => simp [mset, mget]
  | cons r l ih =>
    by_cases e : r.1 = k
    · simp [mset, e, mget]
    · simp only [mset, e, if_false, mget, List.map_cons, ih]
      split <;> simp

theorem mset_births (l : ML) (k t : Int) (c : Nat) : (mset l k t c).map (·.2.2) = if mget l k = none then l.map (·.2.2) ++ [c] else l.map (·.2.2) := by
  induction l with
  | nil => simp [mset, mget]
  | cons r l ih =>
    by_cases e : r.1 = k
    · simp [mset, e, mget]
    · simp only [mset, e, if_false, mget, List.map_cons, ih]
      split <;> simp

theorem mset_len (l : ML) (k t : Int) (c : Nat) : (mset l k t c).length ≤ l.length + 1 := by
  induction l with
  | nil => simp [mset]
  | cons r l ih =>
    by_cases e : r.1 = k
    · simp [mset, e]
    · simp only [mset, e, if_false, List.length_cons]; omega

theorem mdel_sub (l : ML) (k : Int) : (mdel l k).Sublist l := by
  induction l with
  | nil => exact List.Sublist.refl _
  | cons r l ih =>
    by_cases e : r.1 = k
    · simp [mdel, e]
    · simp only [mdel, e, if_false]; exact ih.cons_cons _

theorem mdel_get {l : ML} (ho : Once l) (k j : Int) : mget (mdel l k) j = if j = k then none else mget l j := by
  induction l with
  | nil => simp [mdel, mget]
  | cons r l ih =>
    have ho' : Once l := (List.nodup_cons.1 ho).2
    have hn := (List.nodup_cons.1 ho).1
    by_cases e : r.1 = k
    · by_cases f : j = k
      · subst f
        simp only [mdel, e, if_true]
        exact mget_none.2 fun q hq he => hn (List.mem_map.2 ⟨q, hq, he.trans e.symm⟩)
      · have f' : ¬ k = j := fun x => f x.symm
        simp [mdel, e, mget, f, f']
    · by_cases f : j = k
      · subst f; simp [mdel, e, mget, ih ho']
      · simp [mdel, e, mget, f, ih ho']

theorem Keep.setMap {h : AH} {b : Nat} {es : List (AV × AV × Nat)} {c : Nat} (hg : h.get b = .map es c) (x : ABlk) : Keep h (h.set b x) [b] := by
  refine ⟨Nat.le_refl _, fun q hq hn hS => ?_⟩
  by_cases e : b = q
  · subst e; rw [hg] at hS; simp [nameOf] at hS
  · exact AH.get_set_other e _

section facts
variable {h : AH} {b : Nat} {l : ML} {c : Nat}

theorem lookupV_ME (hg : h.get b = .map (ME l) c) (ok : Bool) (k : Int) : lookupV h .int (.int .i64 0) ok (.map (some b)) (.int .i64 k) = some (if ok then .tuple [.int .i64 ((mget l k).getD 0), .bool (mget l k).isSome] else .int .i64 ((mget l k).getD 0)) := by
  have := mfi_get k l 0
  simp only [lookupV, evalWeak, AOpd.ev, List.getD_cons_zero, List.getD_cons_succ, hg, findKey_ME]
  cases e : mfi k l 0 with
  | none => rw [e] at this; cases e2 : mget l k with
    | none => rfl
    | some t => rw [e2] at this; cases this
  | some p => rw [e] at this; cases e2 : mget l k with
    | none => rw [e2] at this; cases this
    | some t => rw [e2] at this; simp at this; obtain ⟨i, v⟩ := p; simp at this; subst this; cases ok <;> rfl

theorem mfi_none {k : Int} : ∀ {l : ML} {i : Nat}, mfi k l i = none ↔ mget l k = none
  | [], _ => by simp [mfi, mget]
  | r :: t, i => by
    by_cases e : r.1 = k
    · simp [mfi, mget, e]
    · simp only [mfi, mget, e, if_false]; exact mfi_none

theorem setEntry_ME {k t : Int} {c : Nat} : ∀ {l : ML} {i j : Nat} {v : AV}, mfi k l i = some (j, v) → setEntry (j - i) (.int .i64 k) (.int .i64 t) (ME l) = ME (mset l k t c) ∧ sameKeyAt (j - i) (.int .i64 k) (ME l) = true
  | [], _, _, _, h => by cases h
  | r :: l, i, j, v, h => by
    simp only [mfi] at h
    by_cases e : r.1 = k
    · simp [e] at h
      obtain ⟨rfl, _⟩ := h
      simp [ME, setEntry, sameKeyAt, mset, e, plainSame, flatSame]
    · simp only [e, if_false] at h
      obtain ⟨h1, _⟩ := mfi_some h
      obtain ⟨h2, h3⟩ := setEntry_ME (c := c) (t := t) h
      obtain ⟨q, rfl⟩ : ∃ q, j = i + 1 + q := ⟨j - (i + 1), by omega⟩
      rw [show i + 1 + q - (i + 1) = q by omega] at h2 h3
      rw [show i + 1 + q - i = q + 1 by omega]
      refine ⟨?_, by simpa [ME, sameKeyAt] using h3⟩
      simp only [setEntry, ME, List.map_cons, List.getElem?_cons_succ, mset, e, if_false] at h2 ⊢
      cases e2 : (l.map fun r => ((AV.int .i64 r.1, AV.int .i64 r.2.1, r.2.2) : AV × AV × Nat))[q]? with
      | none => rw [e2] at h2; simp only at h2 ⊢; rw [h2]
      | some x => rw [e2] at h2; simp only [List.set_cons_succ] at h2 ⊢; rw [h2]

theorem mset_new {k t : Int} {c : Nat} : ∀ {l : ML}, mget l k = none → mset l k t c = l ++ [(k, t, c)]
  | [], _ => rfl
  | r :: l, h => by
    by_cases e : r.1 = k
    · simp [mget, e] at h
    · simp only [mget, e, if_false] at h
      simp [mset, e, mset_new h]

theorem mapUpdV_ME (hg : h.get b = .map (ME l) c) (k t : Int) : ∃ h', mapUpdV h .int (.map (some b)) (.int .i64 k) (.int .i64 t) = some (.undef, h') ∧ h'.get b = .map (ME (mset l k t c)) (if mget l k = none then c + 1 else c) ∧ Keep h h' [b] ∧ h'.next = h.next := by
  have hd : h.get b ≠ .dead := by rw [hg]; simp
  simp only [mapUpdV, evalStrong, AOpd.ev, List.getD_cons_zero, List.getD_cons_succ, hg, findKey_ME]
  cases e : mfi k l 0 with
  | none =>
    have e1 := mfi_none.1 e
    refine ⟨_, rfl, ?_, Keep.setMap hg _, rfl⟩
    rw [AH.get_set_same hd, if_pos e1, mset_new e1]
    simp [ME]
  | some p =>
    obtain ⟨i, v⟩ := p
    have e1 : mget l k ≠ none := fun x => by rw [mfi_none.2 x] at e; cases e
    obtain ⟨s1, s2⟩ := setEntry_ME (c := c) (t := t) e
    rw [Nat.sub_zero] at s1 s2
    simp only [s2, if_true]
    refine ⟨_, rfl, ?_, Keep.setMap hg _, rfl⟩
    rw [AH.get_set_same hd, if_neg e1, s1]

theorem erase_ME {k : Int} : ∀ {l : ML} {i j : Nat} {v : AV}, mfi k l i = some (j, v) → (ME l).eraseIdx (j - i) = ME (mdel l k)
  | [], _, _, _, h => by cases h
  | r :: l, i, j, v, h => by
    simp only [mfi] at h
    by_cases e : r.1 = k
    · simp [e] at h
      obtain ⟨rfl, _⟩ := h
      simp [ME, mdel, e]
    · simp only [e, if_false] at h
      obtain ⟨h1, _⟩ := mfi_some h
      have h2 := erase_ME h
      obtain ⟨q, rfl⟩ : ∃ q, j = i + 1 + q := ⟨j - (i + 1), by omega⟩
      rw [show i + 1 + q - (i + 1) = q by omega] at h2
      rw [show i + 1 + q - i = q + 1 by omega]
      simp only [ME, List.map_cons, mdel, e, if_false] at h2 ⊢
      rw [List.eraseIdx_cons_succ, h2]

theorem mdel_none {k : Int} : ∀ {l : ML}, mget l k = none → mdel l k = l
  | [], _ => rfl
  | r :: l, h => by
    by_cases e : r.1 = k
    · simp [mget, e] at h
    · simp only [mget, e, if_false] at h
      simp [mdel, e, mdel_none h]

theorem deleteV_ME (hg : h.get b = .map (ME l) c) (k : Int) : ∃ h', deleteV h .int (.map (some b)) (.int .i64 k) = some (.undef, h') ∧ h'.get b = .map (ME (mdel l k)) c ∧ Keep h h' [b] ∧ h'.next = h.next := by
  have hd : h.get b ≠ .dead := by rw [hg]; simp
  simp only [deleteV, evalStrong, AOpd.ev, List.getD_cons_zero, List.getD_cons_succ, hg, findKey_ME]
  cases e : mfi k l 0 with
  | none => exact ⟨_, rfl, by rw [mdel_none (mfi_none.1 e), hg], Keep.refl _ _, rfl⟩
  | some p =>
    obtain ⟨i, v⟩ := p
    have s1 := erase_ME e
    rw [Nat.sub_zero] at s1
    refine ⟨_, rfl, ?_, Keep.setMap hg _, rfl⟩
    rw [AH.get_set_same hd, s1]
end facts

/-- A clock: its time, and who is due. -/
structure ClockAt (h : AH) (p m : Nat) (l : ML) (c : Nat) (now : Int) : Prop where
  ne : p ≠ m
  hp : h.get p = .cells [some (.int .i64 now), some (.map (some m))] 103 p 0 false false true
  hm : h.get m = .map (ME l) c
  once : Once l
  old : ∀ r ∈ l, r.2.2 < c
  born : (l.map (·.2.2)).Nodup

theorem map_lt {h : AH} {m : Nat} {es : List (AV × AV × Nat)} {c : Nat} (hm : h.get m = .map es c) : m < h.next := get_lt_next hm (by simp)

theorem Keep.map {h h' : AH} {S : List Nat} (a : Keep h h' S) {m : Nat} {es : List (AV × AV × Nat)} {c : Nat} (hm : h.get m = .map es c) (hS : m ∉ S) : h'.get m = .map es c := by
  rw [a.old m (by rw [hm]; simp) (by rw [hm]; exact map_lt hm) (by rw [hm]; exact hS), hm]

theorem ClockAt.lt {h p m l c now} (k : ClockAt h p m l c now) : p < h.next ∧ m < h.next := ⟨cells_lt k.hp, map_lt k.hm⟩

theorem ClockAt.keep {h h' : AH} {p m l c now S} (k : ClockAt h p m l c now) (a : Keep h h' S) (h1 : p ∉ S) (h2 : m ∉ S) : ClockAt h' p m l c now :=
  ⟨k.ne, a.cells k.hp k.lt.1 h1, a.map k.hm h2, k.once, k.old, k.born⟩

theorem once_set {l : ML} (ho : Once l) (k t : Int) (c : Nat) : Once (mset l k t c) := by
  unfold Once
  rw [mset_keys]
  split
  · rename_i e
    refine List.nodup_append.2 ⟨ho, by simp, fun a ha b hb => ?_⟩
    obtain ⟨r, hr, rfl⟩ := List.mem_map.1 ha
    obtain rfl := List.mem_singleton.1 hb
    exact mget_none.1 e r hr
  · exact ho

theorem ClockAt.set {h : AH} {p m l c now} (k : ClockAt h p m l c now) (id t : Int) {h' : AH} (hg : h'.get m = .map (ME (mset l id t c)) (if mget l id = none then c + 1 else c)) (a : Keep h h' [m]) :
    ∃ c', ClockAt h' p m (mset l id t c) c' now := by
  refine ⟨_, k.ne, a.cells k.hp k.lt.1 (by simpa using k.ne), hg, once_set k.once _ _ _, ?_, ?_⟩
  · intro r hr
    have hb : r.2.2 ∈ (mset l id t c).map (·.2.2) := List.mem_map.2 ⟨r, hr, rfl⟩
    rw [mset_births] at hb
    have old : ∀ x ∈ l.map (·.2.2), x < c := fun x hx => by obtain ⟨q, hq, rfl⟩ := List.mem_map.1 hx; exact k.old q hq
    split at hb
    · rename_i e
      rw [if_pos e]
      rcases List.mem_append.1 hb with hb | hb
      · exact Nat.lt_succ_of_lt (old _ hb)
      · rw [List.mem_singleton.1 hb]; exact Nat.lt_succ_self _
    · rename_i e
      rw [if_neg e]; exact old _ hb
  · rw [mset_births]
    split
    · refine List.nodup_append.2 ⟨k.born, by simp, fun a ha b hb => ?_⟩
      obtain ⟨r, hr, rfl⟩ := List.mem_map.1 ha
      obtain rfl := List.mem_singleton.1 hb
      exact Nat.ne_of_lt (k.old r hr)
    · exact k.born

theorem ClockAt.del {h : AH} {p m l c now} (k : ClockAt h p m l c now) (id : Int) {h' : AH} (hg : h'.get m = .map (ME (mdel l id)) c) (a : Keep h h' [m]) : ClockAt h' p m (mdel l id) c now :=
  ⟨k.ne, a.cells k.hp k.lt.1 (by simpa using k.ne), hg, List.Nodup.sublist ((mdel_sub l id).map _) k.once, fun r hr => k.old r ((mdel_sub l id).subset hr), List.Nodup.sublist ((mdel_sub l id).map _) k.born⟩

def within (n : Int) : Int := if n < 0 then 0 else if n > 1073741824 then 1073741824 else n
theorem within_b (n : Int) : 0 ≤ within n ∧ within n ≤ 1073741824 := by unfold within; split <;> (try split) <;> omega

theorem within53 {h : AH} {n : Int} {Q : AV → AH → Prop} (q : Q (.int .i64 (within n)) h) : WCall E0 (.fn 53) [.int .i64 n] h Q := by
  refine call0 F53 (WCode.seq (WCode.region ?_))
  simp [c53, c53_r0]
  refine WCode.seq (WCode.region ?_)
  simp [c53_r1]
  refine WCode.ret ?_
  simp
  unfold within at q
  by_cases h1 : n < 0
  · have h2 : ¬ (1073741824 : Int) < n := by omega
    have h3 : ¬ (0 : Int) < n := by omega
    simp only [h1, h2, h3, gt_iff_lt, if_true, if_false] at q ⊢
    exact q
  · by_cases h2 : (1073741824 : Int) < n
    · simp [h1, h2] at q ⊢
      exact q
    · by_cases h3 : (0 : Int) < n
      · simp [h1, h2, h3] at q ⊢
        exact q
      · have : n = 0 := by omega
        subst this
        simp at q ⊢
        exact q

theorem set35 {h : AH} {p m l c now} {id n : Int} {Q : AV → AH → Prop} (k : ClockAt h p m l c now) (hb : -281474976710656 ≤ now ∧ now < 4611686018427387904) (q : ∀ h' c', ClockAt h' p m (mset l id (now + within n) c) c' now → Keep h h' [m] → Q (.tuple []) h') :
    WCall E0 (.fn 35) [.ptr (some (p, 0)), .int .i64 id, .int .i64 n] h Q := by
  refine call0 F35 (WCode.seq (WCode.region ?_))
  simp [c35, c35_r0]
  refine WCode.condT (by simp) (WCode.draw ?_)
  simp [c35_r1, cell1_of k.hp]
  refine within53 ?_
  simp
  have w := within_b n
  rw [wrap_i64 (by omega) (by omega)]
  obtain ⟨h', e, g, a, hn⟩ := mapUpdV_ME k.hm id (now + within n)
  refine BQ.of e ?_
  simp
  obtain ⟨c', k'⟩ := k.set id _ g a
  refine ⟨⟨chk_mem fun hh hm => ?_, chk_mem fun hh hm => ?_⟩, q _ _ k' a⟩
  all_goals
    simp at hm
    rcases hm with rfl | rfl
    · simp [cell1_of k.hp]
    · simp [cell1_of k'.hp]

theorem set35n {h : AH} {id n : Int} {Q : AV → AH → Prop} (q : Q (.tuple []) h) : WCall E0 (.fn 35) [.ptr none, .int .i64 id, .int .i64 n] h Q := by
  refine call0 F35 (WCode.seq (WCode.region ?_))
  simp [c35, c35_r0]
  refine WCode.condF (by simp) (WCode.skip ?_)
  simp
  exact q

theorem stop38 {h : AH} {p m l c now} {id : Int} {Q : AV → AH → Prop} (k : ClockAt h p m l c now) (q : ∀ h', ClockAt h' p m (mdel l id) c now → Keep h h' [m] → Q (.tuple []) h') : WCall E0 (.fn 38) [.ptr (some (p, 0)), .int .i64 id] h Q := by
  refine call0 F38 (WCode.seq (WCode.region ?_))
  simp [c38, c38_r0]
  refine WCode.condT (by simp) (WCode.region ?_)
  simp [c38_r1, cell1_of k.hp]
  obtain ⟨h', e, g, a, hn⟩ := deleteV_ME k.hm id
  refine BQ.of e ?_
  simp
  exact q _ (k.del id g a) a

theorem stop38n {h : AH} {id : Int} {Q : AV → AH → Prop} (q : Q (.tuple []) h) : WCall E0 (.fn 38) [.ptr none, .int .i64 id] h Q := by
  refine call0 F38 (WCode.seq (WCode.region ?_))
  simp [c38, c38_r0]
  refine WCode.condF (by simp) (WCode.skip ?_)
  simp
  exact q

theorem now44 {h : AH} {p m l c now} {Q : AV → AH → Prop} (k : ClockAt h p m l c now) (q : Q (.int .i64 now) h) : WCall E0 (.fn 44) [.ptr (some (p, 0))] h Q := by
  refine call0 F44 (WCode.seq (WCode.region ?_))
  simp [c44, c44_r0]
  refine WCode.seq (WCode.seq (WCode.region ?_))
  simp [c44_r1]
  refine WCode.condF (by simp) (WCode.skip ?_)
  simp
  refine WCode.seq (WCode.region ?_)
  simp [c44_r3, cell1_of k.hp]
  refine WCode.ret ?_
  simp
  exact q

theorem now44n {h : AH} {Q : AV → AH → Prop} (q : Q (.int .i64 0) h) : WCall E0 (.fn 44) [.ptr none] h Q := by
  refine call0 F44 (WCode.seq (WCode.region ?_))
  simp [c44, c44_r0]
  refine WCode.seq (WCode.seq (WCode.region ?_))
  simp [c44_r1]
  refine WCode.condT (by simp) (WCode.seq (WCode.region ?_))
  simp [c44_r2]
  refine WCode.ret ?_
  simp
  exact q

theorem left39 {h : AH} {p m l c now} {id : Int} {Q : AV → AH → Prop} (k : ClockAt h p m l c now) (q0 : mget l id = none → Q (.tuple [.int .i64 0, .bool false]) h) (q1 : ∀ t, mget l id = some t → Q (.tuple [.int .i64 (IntKind.i64.wrap (t - now)), .bool true]) h) :
    WCall E0 (.fn 39) [.ptr (some (p, 0)), .int .i64 id] h Q := by
  refine call0 F39 (WCode.seq (WCode.region ?_))
  simp [c39, c39_r0]
  refine WCode.seq (WCode.seq (WCode.region ?_))
  simp [c39_r1]
  refine WCode.condF (by simp) (WCode.skip ?_)
  simp
  refine WCode.seq (WCode.region ?_)
  simp [c39_r3, cell1_of k.hp, lookupV_ME k.hm]
  cases e : mget l id with
  | none =>
    refine WCode.seq (WCode.seq (WCode.region ?_))
    simp [c39_r4]
    refine WCode.condT (by simp) (WCode.seq (WCode.region ?_))
    simp [c39_r5]
    refine WCode.ret ?_
    simp
    exact q0 e
  | some t =>
    refine WCode.seq (WCode.seq (WCode.region ?_))
    simp [c39_r4]
    refine WCode.condF (by simp) (WCode.skip ?_)
    simp
    refine WCode.seq (WCode.region ?_)
    simp [c39_r6, cell1_of k.hp]
    refine WCode.ret ?_
    simp
    exact q1 t e

theorem left39n {h : AH} {id : Int} {Q : AV → AH → Prop} (q : Q (.tuple [.int .i64 0, .bool false]) h) : WCall E0 (.fn 39) [.ptr none, .int .i64 id] h Q := by
  refine call0 F39 (WCode.seq (WCode.region ?_))
  simp [c39, c39_r0]
  refine WCode.seq (WCode.seq (WCode.region ?_))
  simp [c39_r1]
  refine WCode.condT (by simp) (WCode.seq (WCode.region ?_))
  simp [c39_r2]
  refine WCode.ret ?_
  simp
  exact q

theorem new33 {h : AH} {n : Int} {Q : AV → AH → Prop} (q0 : (n < -281474976710656 ∨ 281474976710656 < n) → Q (.ptr none) h)
    (q1 : -281474976710656 ≤ n → n ≤ 281474976710656 → ∀ h' p m c, ClockAt h' p m [] c n → Keep h h' [] → h.next ≤ p → h.next ≤ m → Q (.ptr (some (p, 0))) h') : WCall E0 (.fn 33) [.int .i64 n] h Q := by
  refine call0 F33 (WCode.seq (WCode.region ?_))
  simp [c33, c33_r0]
  refine WCode.seq (WCode.seq (WCode.region ?_))
  have out : ∀ (env : List AV) (Q' : AExit → List AV → AH → Prop), env.length = 13 → (∀ e, slot e 2 = .ptr none → Q' .ret e h) → WCode E0 false (.seq (.region c33_r2 false) .ret) env h Q' := by
    intro env Q' hlen hQ
    refine WCode.seq (WCode.region ?_)
    simp [c33_r2, hlen]
    exact WCode.ret (hQ _ (by simp [hlen]))
  by_cases h1 : n < -281474976710656
  · simp [c33_r1, h1]
    refine WCode.condT (by simp) (out _ _ rfl fun e he => ?_)
    simp [he]
    exact q0 (.inl h1)
  · by_cases h2 : 281474976710656 < n
    · simp [c33_r1, h1, h2]
      refine WCode.condT (by simp) (out _ _ rfl fun e he => ?_)
      simp [he]
      exact q0 (.inr h2)
    · simp [c33_r1, h1, h2]
      refine WCode.condF (by simp) (WCode.skip ?_)
      simp
      refine WCode.seq (WCode.region ?_)
      simp [c33_r3, boxV]
      refine WCode.ret ?_
      simp
      have k1 := Keep.push h (.map [] 0) []
      have k2 := Keep.row (h.push (.map [] 0)) [.int .i64 n, .map (some h.next)] 103 true []
      refine q1 (by omega) (by omega) _ _ h.next 0 ⟨by simp, ?_, ?_, List.nodup_nil, by simp, List.nodup_nil⟩ (k1.trans k2 (by simp) (by simp)) (by simp) (Nat.le_refl _)
      · exact get_row_new _ _ _ _ _ rfl
      · exact k2.map (get_push_new h _ _ rfl) (by simp)
end Go.Proofs.Ytkbekibljcdbjaa.Ax
