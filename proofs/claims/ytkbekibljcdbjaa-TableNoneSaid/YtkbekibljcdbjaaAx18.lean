/- A region whose order is open, the whole. Conditions: as each theorem states. -/
import Derived.Test.YtkbekibljcdbjaaAx17
namespace Go.Proofs.Ytkbekibljcdbjaa.Ax
open Go Go.RowKit
set_option linter.unusedVariables false

/-! ### What comes before in every order -/
theorem bits_fold (acc : List Nat) (j : Nat) : ∀ (l : List Edge) (s : Nat), (l.foldl (fun s e => if Region.binds .any e then s ||| 2 ^ e.on ||| acc.getD e.on 0 else s) s).testBit j = true →
    s.testBit j = true ∨ ∃ e ∈ l, Region.binds .any e = true ∧ (e.on = j ∨ (acc.getD e.on 0).testBit j = true)
  | [], s, h => .inl h
  | e :: l, s, h => by
    simp only [List.foldl_cons] at h
    rcases bits_fold acc j l _ h with h1 | ⟨e', he', hb⟩
    · split at h1
      · rename_i hbind
        rw [Nat.testBit_or, Nat.testBit_or] at h1
        simp only [Bool.or_eq_true] at h1
        rcases h1 with (h1 | h1) | h1
        · exact .inl h1
        · rw [Nat.testBit_two_pow] at h1
          exact .inr ⟨e, by simp, hbind, .inl (by simpa using h1)⟩
        · exact .inr ⟨e, by simp, hbind, .inr h1⟩
      · exact .inl h1
    · exact .inr ⟨e', by simp [he'], hb⟩

theorem bef_pre : ∀ (l : List Oper) (acc : List Nat) (i : Nat), i < acc.length → (bef l acc)[i]? = acc[i]?
  | [], acc, i, h => rfl
  | o :: r, acc, i, h => by
    simp only [bef]
    rw [bef_pre r _ i (by simp; omega), List.getElem?_append_left h]

theorem bef_get : ∀ (l : List Oper) (acc : List Nat) (k : Nat) (o : Oper), l[k]? = some o → ∃ pre : List Nat, pre.length = acc.length + k ∧ (∀ i, i < pre.length → (bef l acc)[i]? = pre[i]?) ∧ (bef l acc)[acc.length + k]? = some (bitsOf o pre)
  | [], _, _, _, h => by simp at h
  | x :: r, acc, k, o, h => by
    cases k with
    | zero =>
      simp at h; subst h
      refine ⟨acc, by simp, fun i hi => bef_pre _ _ _ hi, ?_⟩
      simp only [bef, Nat.add_zero]
      rw [bef_pre r _ _ (by simp), List.getElem?_append_right (Nat.le_refl _)]
      simp
    | succ k =>
      obtain ⟨pre, h1, h2, h3⟩ := bef_get r (acc ++ [bitsOf x acc]) k o (by simpa using h)
      simp only [bef]
      simp only [List.length_append, List.length_cons, List.length_nil] at h1 h3
      exact ⟨pre, by omega, h2, by rw [show acc.length + (k + 1) = acc.length + (0 + 1) + k by omega]; exact h3⟩

theorem bef_closed {ops : Array Oper} {i j : Nat} {o : Oper} (ho : ops[i]? = some o) (hb : ((bef ops.toList []).getD i 0).testBit j = true) :
    ∃ e ∈ o.after.toList, Region.binds .any e = true ∧ (e.on = j ∨ ((bef ops.toList []).getD e.on 0).testBit j = true) := by
  obtain ⟨pre, h1, h2, h3⟩ := bef_get ops.toList [] i o (by simpa using ho)
  simp only [List.length_nil, Nat.zero_add] at h1 h3
  simp only [List.getD, h3, Option.getD_some] at hb
  rcases bits_fold pre j _ _ hb with h | ⟨e, he, hbind, h⟩
  · simp at h
  · refine ⟨e, he, hbind, ?_⟩
    rcases h with h | h
    · exact .inl h
    · refine .inr ?_
      by_cases hl : e.on < pre.length
      · simp only [List.getD, h2 _ hl]; exact h
      · have : pre.getD e.on 0 = 0 := by simp [List.getD, List.getElem?_eq_none (by omega : pre.length ≤ e.on)]
        rw [this] at h; simp at h

theorem cntS_mono {S S' : Nat → Bool} : ∀ (ops : List AOp) (o : Nat), (∀ (k : Nat) (x : AOp), ops[k]? = some x → isStrong x = true → S (o + k) = true → S' (o + k) = true) → cntS ops o S ≤ cntS ops o S'
  | [], _, _ => Nat.le_refl _
  | x :: r, o, h => by
    have ih := cntS_mono (S := S) (S' := S') r (o + 1) (fun k y hk hy hs => by
      have := h (k + 1) y (by simpa using hk) hy
      have e : o + 1 + k = o + (k + 1) := by omega
      rw [e] at hs ⊢; exact this hs)
    simp only [cntS]
    by_cases hx : isStrong x = true
    · have := h 0 x rfl hx
      simp only [Nat.add_zero] at this
      simp only [hx, Bool.true_and]
      split
      · rename_i hs; rw [if_pos (this hs)]; omega
      · omega
    · simp only [hx, Bool.false_and]; omega

/-- A compiled region whose order is open. -/
structure DrawOk (P : Program) (ifs : List TypeId) (ops : Array Oper) (l : List AOper) : Prop where
  reg : RegionOk P ifs ops l
  names : ∀ (i : Nat) (o : Oper) (ao : AOper), ops[i]? = some o → l[i]? = some ao → ao.names = tmpsOf o.op.operands
  lo : ∀ (i : Nat) (ao : AOper), l[i]? = some ao → ao.lo = cntS (l.map (·.op)) 0 (fun s => ((bef ops.toList []).getD i 0).testBit s)
  hi : ∀ (i : Nat) (ao : AOper), l[i]? = some ao → ao.hi = cntS (l.map (·.op)) 0 (fun s => !((bef ops.toList []).getD s 0).testBit i)
  slots : ∀ (j : Nat) (o : Oper) (t i : Nat) (p : Oper), ops[j]? = some o → t ∈ slotsOf ops o → ops[i]? = some p → p.dst = some t → i ≠ j → ((bef ops.toList []).getD (max i j) 0).testBit (min i j) = true
  edges : ∀ (j : Nat) (o : Oper) (e : Edge), ops[j]? = some o → e ∈ o.after.toList → Region.binds .any e = true → e.on < j
  chain : ∀ (i j : Nat) (x y : AOper), l[i]? = some x → l[j]? = some y → isStrong x.op = true → isStrong y.op = true → i < j → ((bef ops.toList []).getD j 0).testBit i = true

section
variable {P : Program} {ifs : List TypeId} {φ0 : Emb} {w0 wS : World} {mt : Methods} {call : Callee} {ops : Array Oper} {l : List AOper} {hs : List AH} {cs : List Chk} {E : Nat → List AV} {V : Nat → AV} {C : Nat → Nat} {a0 : Act}

/-- Where a region whose order is open stands. -/
structure DInv (P : Program) (ifs : List TypeId) (φ0 : Emb) (w0 wS : World) (ops : Array Oper) (l : List AOper) (hs : List AH) (E : Nat → List AV) (V : Nat → AV) (a0 : Act) (φ : Emb) (L : Array Bool) (a : Act) (w : World) : Prop where
  size : L.size = ops.size
  closed : ∀ i j, L.getD i false = true → ((bef ops.toList []).getD i 0).testBit j = true → L.getD j false = true
  rel : ∃ h, hs[cntS (l.map (·.op)) 0 (fun k => L.getD k false)]? = some h ∧ Rel P ifs φ w0 h w
  stp : Stp φ0 φ wS w
  len : a.tmps.size = (E 0).length
  vals : ∀ t, t < (E 0).length → VR φ (valAt l V (E 0) (fun k => L.getD k false) ops.size t) (a.tmps.getD t undef)
  dfr : a.defers = a0.defers

theorem getD_set {L : Array Bool} {i k : Nat} (hi : i < L.size) : (L.setIfInBounds i true).getD k false = (L.getD k false || decide (k = i)) := by
  rw [Array.getD_eq_getD_getElem?, Array.getD_eq_getD_getElem?, Array.getElem?_setIfInBounds]
  by_cases e : i = k
  · subst e; simp [hi]
  · simp [e, show ¬ k = i from fun x => e x.symm]

theorem getD_tf {L : Array Bool} {i : Nat} (hi : i < L.size) : L.getD i true = L.getD i false := by
  simp [Array.getD_eq_getD_getElem?, hi]

theorem wr_iff (hr : RegionOk P ifs ops l) {k t : Nat} (h : wr l k t = true) : ∃ p, ops[k]? = some p ∧ p.dst = some t := by
  unfold wr at h
  split at h
  case h_2 => cases h
  rename_i ao hao
  have hk : k < l.length := (List.getElem?_eq_some_iff.1 hao).1
  have hko : k < ops.size := by have := hr.1; omega
  have := (hr.2 k ops[k] ao (by simp [hko]) hao).dst
  exact ⟨ops[k], by simp [hko], by rw [← this]; simpa using h⟩

theorem putTmps_size (a : Act) (d : Option Nat) (v : Value) : (a.put d v).tmps.size = a.tmps.size := by cases d <;> simp [Act.put]

theorem putTmps_get (a : Act) (d : Option Nat) (v : Value) (t : Nat) (ht : t < a.tmps.size) : (a.put d v).tmps.getD t undef = if d = some t then v else a.tmps.getD t undef := by
  cases d with
  | none => simp [Act.put]
  | some d =>
    simp only [Act.put]
    rw [Array.getD_eq_getD_getElem?, Array.getD_eq_getD_getElem?, Array.getElem?_setIfInBounds]
    by_cases e : d = t
    · subst e; simp [ht]
    · simp [e]

theorem DInv.next (hd : DrawOk P ifs ops l) (hC0 : C 0 = 0) (hst : ∀ (i : Nat) (o : AOper), l[i]? = some o → StepOk mt call hs cs o (E i) (C i) (V i) (C (i + 1)) ∧ E (i + 1) = putEnv (E i) o.dst (V i))
    {φ φ' : Emb} {L : Array Bool} {a : Act} {w w' : World} (hI : DInv P ifs φ0 w0 wS ops l hs E V a0 φ L a w) {i : Nat} {o : Oper} {ao : AOper} (hi : i < ops.size) (ho : ops[i]? = some o) (hao : l[i]? = some ao) (hSi : L.getD i false = false)
    (D1 : ∀ j, ((bef ops.toList []).getD i 0).testBit j = true → L.getD j false = true) (D2 : ∀ j, ((bef ops.toList []).getD j 0).testBit i = true → L.getD j false = false)
    {v' : Value} (hv : VR φ' (V i) v') {h1 : AH} (hr : Rel P ifs φ' w0 h1 w') (hs' : Stp φ φ' w w')
    (hh : if isStrong ao.op then hs[C i + 1]? = some h1 else hs[cntS (l.map (·.op)) 0 (fun k => L.getD k false)]? = some h1) : DInv P ifs φ0 w0 wS ops l hs E V a0 φ' (L.setIfInBounds i true) (a.put o.dst v') w' := by
  have hiL : i < L.size := by rw [hI.size]; exact hi
  have hil : i < l.length := by have := hd.reg.1; omega
  have hok := hd.reg.2 i o ao ho hao
  refine ⟨by simpa using hI.size, ?_, ⟨h1, ?_, hr⟩, hI.stp.trans hs', by rw [putTmps_size]; exact hI.len, ?_, by rw [put_defers]; exact hI.dfr⟩
  · intro k j hk hb
    rw [getD_set hiL] at hk ⊢
    simp only [Bool.or_eq_true, decide_eq_true_eq] at hk ⊢
    rcases hk with hk | rfl
    · exact .inl (hI.closed k j hk hb)
    · exact .inl (D1 j hb)
  · split at hh
    · rename_i hso
      have hcnt : cntS (l.map (·.op)) 0 (fun k => (L.setIfInBounds i true).getD k false) = C i + 1 := by
        have e1 := (hst i ao hao).1.1
        rw [if_pos hso] at e1
        rw [← e1, C_cnt hC0 (fun i o h => (hst i o h).1) (i + 1) (by omega)]
        refine cntS_congr _ _ fun k x hk hx => ?_
        rw [Nat.zero_add, getD_set hiL]
        have hkl : k < l.length := by have := (List.getElem?_eq_some_iff.1 hk).1; simpa using this
        have hkx : l[k].op = x := by simp [hkl] at hk; exact hk
        rcases Nat.lt_trichotomy k i with h | h | h
        · have := D1 k (hd.chain k i l[k] ao (by simp [hkl]) hao (by rw [hkx]; exact hx) hso h)
          rw [this]; simp; omega
        · subst h; simp
        · have := D2 k (hd.chain i k ao l[k] hao (by simp [hkl]) hso (by rw [hkx]; exact hx) h)
          rw [this]; simp; omega
      rw [hcnt]; exact hh
    · rename_i hso
      have hcnt : cntS (l.map (·.op)) 0 (fun k => (L.setIfInBounds i true).getD k false) = cntS (l.map (·.op)) 0 (fun k => L.getD k false) := by
        refine cntS_congr _ _ fun k x hk hx => ?_
        rw [Nat.zero_add, getD_set hiL]
        have : k ≠ i := by
          rintro rfl
          simp only [List.getElem?_map, hao, Option.map_some, Option.some.injEq] at hk
          subst hk
          exact hso hx
        simp [this]
      rw [hcnt]; exact hh
  · intro t ht
    have hta : t < a.tmps.size := by rw [hI.len]; exact ht
    rw [putTmps_get _ _ _ _ hta]
    by_cases hdt : o.dst = some t
    · rw [if_pos hdt]
      have hwr : wr l i t = true := by simp [wr, hao, hok.dst, hdt]
      have e1 : valAt l V (E 0) (fun k => (L.setIfInBounds i true).getD k false) ops.size t = V i := by
        rw [valAt_none (i := i + 1) ops.size (by omega) (fun k h1 h2 hk => ?_)]
        · simp only [valAt, getD_set hiL, hwr, decide_true, Bool.or_true, Bool.true_and, if_true]
        · obtain ⟨p, hp, hpd⟩ := wr_iff hd.reg hk
          have := hd.slots i o t k p ho (by unfold slotsOf; rw [hdt]; simp) hp hpd (by omega)
          rw [show max k i = k by omega, show min k i = i by omega] at this
          rw [getD_set hiL, D2 k this]
          simp; omega
      rw [e1]; exact hv
    · rw [if_neg hdt]
      have e1 : valAt l V (E 0) (fun k => (L.setIfInBounds i true).getD k false) ops.size t = valAt l V (E 0) (fun k => L.getD k false) ops.size t := by
        refine valAt_congr _ fun k hk hw => ?_
        rw [getD_set hiL]
        have : k ≠ i := by
          rintro rfl
          obtain ⟨p, hp, hpd⟩ := wr_iff hd.reg hw
          rw [ho] at hp; simp at hp; subst hp
          exact hdt hpd
        simp [this]
      rw [e1]; exact VR.ext hs'.ext _ _ (hI.vals t ht)

theorem draw_any (hcs : CallSound P ifs call) (hmt : MtOk P mt) (hd : DrawOk P ifs ops l) (hC0 : C 0 = 0) (hst : ∀ (i : Nat) (o : AOper), l[i]? = some o → StepOk mt call hs cs o (E i) (C i) (V i) (C (i + 1)) ∧ E (i + 1) = putEnv (E i) o.dst (V i))
    (hchk : cs.all (Chk.ok hs) = true) {h' : AH} (hlast : hs[C l.length]? = some h') {Q : Exit → Act → World → Prop}
    (hQ : ∀ φ' w' a', VRs φ' (E l.length) a'.tmps.toList → a'.defers = a0.defers → Rel P ifs φ' w0 h' w' → Stp φ0 φ' wS w' → Q .normal a' w') :
    ∀ (fuel : Nat) (L : Array Bool) (φ : Emb) (a : Act) (w : World), DInv P ifs φ0 w0 wS ops l hs E V a0 φ L a w → L.toList.countP (fun b => !b) ≤ fuel → wpAny P .any ops Q fuel L a w := by
  have hln : l.length = ops.size := hd.reg.1
  have hEl := fun i hi => E_len (l := l) (V := V) (E := E) (env0 := E 0) rfl (fun i o h => (hst i o h).2) i hi
  have hEv := fun i hi t ht => E_val (l := l) (V := V) (E := E) (env0 := E 0) rfl (fun i o h => (hst i o h).2) i hi t ht
  have hCc := fun i hi => C_cnt (l := l) (V := V) (E := E) (C := C) hC0 (fun i o h => (hst i o h).1) i hi
  -- at the end
  have hend : ∀ (L : Array Bool) (φ : Emb) (a : Act) (w : World), DInv P ifs φ0 w0 wS ops l hs E V a0 φ L a w → (∀ i, i < ops.size → L.getD i false = true) → Q .normal a w := by
    intro L φ a w hI hall
    have hcnt : cntS (l.map (·.op)) 0 (fun k => L.getD k false) = C l.length := by
      rw [hCc l.length (Nat.le_refl _)]
      refine cntS_congr _ _ fun k x hk hx => ?_
      have hkl : k < l.length := by have := (List.getElem?_eq_some_iff.1 hk).1; simpa using this
      rw [Nat.zero_add, hall k (by omega)]; simp [hkl]
    obtain ⟨h, h1, h2⟩ := hI.rel
    rw [hcnt, hlast] at h1
    simp at h1; subst h1
    refine hQ φ w a ?_ hI.dfr h2 hI.stp
    have hlen := hEl l.length (Nat.le_refl _)
    refine VRs.iff.2 ⟨by rw [hlen, ← hI.len]; simp, fun t x u hx hu => ?_⟩
    have ht : t < (E 0).length := by rw [← hlen]; exact (List.getElem?_eq_some_iff.1 hx).1
    have h3 := hI.vals t ht
    have e1 : valAt l V (E 0) (fun k => L.getD k false) ops.size t = x := by
      have := hEv l.length (Nat.le_refl _) t ht
      rw [show (E l.length).getD t .undef = x by simp [List.getD, hx]] at this
      rw [this, hln]
      exact valAt_congr _ fun k hk _ => hall k hk
    have e2 : a.tmps.getD t undef = u := by
      have : a.tmps[t]? = some u := by simpa using hu
      rw [Array.getD_eq_getD_getElem?, this]; rfl
    rw [e1, e2] at h3
    exact h3
  have hready : ∀ (L : Array Bool), L.size = ops.size → Region.ready .any ops L = [] → ∀ i, i < ops.size → L.getD i false = true := by
    intro L hsz hr i
    induction i using Nat.strongRecOn with
    | _ i ih =>
      intro hi
      cases e : L.getD i false with
      | true => rfl
      | false =>
        exfalso
        have : i ∈ Region.ready .any ops L := by
          unfold Region.ready
          rw [List.mem_filter]
          refine ⟨by simpa using hi, ?_⟩
          rw [getD_tf (by omega), e, Array.getElem?_eq_getElem hi]
          simp only [Bool.not_false, Bool.true_and, Option.map_some, Option.getD_some]
          rw [← Array.all_toList, List.all_eq_true]
          intro ed hed
          cases hb : Region.binds .any ed with
          | false => rfl
          | true =>
            have hlt := hd.edges i ops[i] ed (by simp [hi]) hed hb
            have := ih ed.on hlt (by omega)
            simp only [Bool.not_true, Bool.false_or]
            exact this
        rw [hr] at this; simp at this
  intro fuel
  induction fuel with
  | zero =>
    intro L φ a w hI hcp
    have hall : ∀ i, i < ops.size → L.getD i false = true := by
      intro i hi
      have h0 : L.toList.countP (fun b => !b) = 0 := Nat.le_zero.1 hcp
      rw [List.countP_eq_zero] at h0
      have hi' : i < L.size := by rw [hI.size]; exact hi
      have := h0 L[i] (by simp)
      rw [Array.getD_eq_getD_getElem?, Array.getElem?_eq_getElem hi']
      simpa using this
    refine ⟨?_, hend L φ a w hI hall⟩
    unfold Region.ready
    rw [List.filter_eq_nil_iff]
    intro i hi
    simp only [List.mem_range] at hi
    rw [getD_tf (by rw [hI.size]; exact hi), hall i hi]
    simp
  | succ fuel ih =>
    intro L φ a w hI hcp
    refine ⟨fun hr => hend L φ a w hI (hready L hI.size hr), fun i hi => ?_⟩
    unfold Region.ready at hi
    rw [List.mem_filter] at hi
    obtain ⟨hin, hib⟩ := hi
    have hio : i < ops.size := by simpa using hin
    have hiL : i < L.size := by rw [hI.size]; exact hio
    have hil : i < l.length := by omega
    rw [Array.getElem?_eq_getElem hio] at hib
    simp only [Bool.and_eq_true, Bool.not_eq_true', Option.map_some, Option.getD_some] at hib
    obtain ⟨hSi, hdeps⟩ := hib
    rw [getD_tf hiL] at hSi
    have ho : ops[i]? = some ops[i] := by simp [hio]
    have hao : l[i]? = some l[i] := by simp [hil]
    have hok := hd.reg.2 i _ _ ho hao
    have D1 : ∀ j, ((bef ops.toList []).getD i 0).testBit j = true → L.getD j false = true := by
      intro j hj
      obtain ⟨e, he, hb, hor⟩ := bef_closed ho hj
      rw [← Array.all_toList, List.all_eq_true] at hdeps
      have := hdeps e he
      rw [hb] at this
      simp only [Bool.not_true, Bool.false_or] at this
      rcases hor with rfl | hor
      · exact this
      · exact hI.closed _ _ this hor
    have D2 : ∀ j, ((bef ops.toList []).getD j 0).testBit i = true → L.getD j false = false := by
      intro j hj
      cases e : L.getD j false with
      | false => rfl
      | true => have := hI.closed j i e hj; rw [hSi] at this; cases this
    have hagree : ∀ t ∈ slotsOf ops ops[i], valAt l V (E 0) (fun k => L.getD k false) ops.size t = valAt l V (E 0) (fun _ => true) i t := by
      intro t ht
      rw [valAt_none (i := i) ops.size (by omega) (fun k h1 h2 hk => ?_)]
      · refine valAt_congr _ fun k hk hw => ?_
        obtain ⟨p, hp, hpd⟩ := wr_iff hd.reg hw
        have := hd.slots i _ t k p ho ht hp hpd (by omega)
        rw [show max k i = i by omega, show min k i = k by omega] at this
        exact D1 k this
      · obtain ⟨p, hp, hpd⟩ := wr_iff hd.reg hk
        by_cases e : k = i
        · subst e; exact hSi
        · have := hd.slots i _ t k p ho ht hp hpd e
          rw [show max k i = k by omega, show min k i = i by omega] at this
          exact D2 k this
    have hslot : ∀ t ∈ slotsOf ops ops[i], VR φ ((E i).getD t .undef) (a.tmps.getD t undef) := by
      intro t ht
      by_cases htl : t < (E 0).length
      · rw [hEv i (by omega) t htl, ← hagree t ht]; exact hI.vals t htl
      · have h1 : (E i).getD t .undef = .undef := by
          have := hEl i (by omega)
          simp [List.getD, List.getElem?_eq_none (by omega : (E i).length ≤ t)]
        have h2 : a.tmps.getD t undef = undef := by
          have := hI.len
          rw [Array.getD_eq_getD_getElem?, Array.getElem?_eq_none (by omega)]; rfl
        rw [h1, h2]; exact vr_undef
    have hcpt : (L.setIfInBounds i true).toList.countP (fun b => !b) ≤ fuel := by
      rw [Array.toList_setIfInBounds, List.countP_set (by simpa using hiL)]
      have hLi : L.toList[i]'(by simpa using hiL) = false := by
        rw [Array.getD_eq_getD_getElem?, Array.getElem?_eq_getElem hiL] at hSi
        simpa using hSi
      rw [hLi]
      simp only [Bool.not_false, Bool.not_true, if_true, Bool.false_eq_true, if_false]
      omega
    have hstep := (hst i _ hao).1
    unfold wpOp
    rw [ho]
    dsimp only
    have hwant : Region.wanted ops[i] (yielded ops a.tmps) = wanted (E i) l[i].guard := by
      refine wanted_sound (φ := φ) hok.guard fun s want hg => ?_
      have hmem : s ∈ slotsOf ops ops[i] := by
        have hg' := hok.guard
        unfold cGuard at hg'
        split at hg'
        · simp at hg'; rw [hg] at hg'; cases hg'
        · rename_i j wt eg
          split at hg'
          case h_2 => cases hg'
          rename_i d hdd
          simp at hg'
          rw [hg] at hg'
          simp at hg'
          unfold slotsOf
          rw [eg]
          simp only [hdd, hg'.1]
          simp
      have h3 := hslot s hmem
      have hlen := hEl i (by omega)
      by_cases hsl : s < (E 0).length
      · refine .inr ⟨(E i)[s]'(by omega), a.tmps[s]'(by have := hI.len; omega), by simp, by simp, ?_⟩
        have e1 : (E i).getD s .undef = (E i)[s]'(by omega) := by simp [List.getD, (by omega : s < (E i).length)]
        have e2 : a.tmps.getD s undef = a.tmps[s]'(by have := hI.len; omega) := by
          rw [Array.getD_eq_getD_getElem?, Array.getElem?_eq_getElem (by have := hI.len; omega)]; rfl
        rw [e1, e2] at h3
        exact h3
      · exact .inl ⟨List.getElem?_eq_none (by omega), Array.getElem?_eq_none (by have := hI.len; omega)⟩
    rw [hwant]
    obtain ⟨h, hcur, hrel⟩ := hI.rel
    have hC : isStrong l[i].op = true → cntS (l.map (·.op)) 0 (fun k => L.getD k false) = C i := by
      intro hso
      rw [hCc i (by omega)]
      refine cntS_congr _ _ fun k x hk hx => ?_
      have hkl : k < l.length := by have := (List.getElem?_eq_some_iff.1 hk).1; simpa using this
      have hkx : l[k].op = x := by simp [hkl] at hk; exact hk
      rw [Nat.zero_add]
      rcases Nat.lt_trichotomy k i with h | h | h
      · rw [D1 k (hd.chain k i l[k] l[i] (by simp [hkl]) hao (by rw [hkx]; exact hx) hso h)]; simp [h]
      · subst h; rw [hSi]; simp
      · rw [D2 k (hd.chain i k l[i] l[k] hao (by simp [hkl]) hso (by rw [hkx]; exact hx) h)]; simp; omega
    by_cases hw : wanted (E i) l[i].guard = true
    · rw [if_pos hw]
      obtain ⟨s1, s2, s3⟩ := hstep.2.2 hw
      -- what the evaluator gives here
      have hev : ∃ h1, evalOp mt call (mask l[i].names (E i)) h l[i].op = some (V i, h1) ∧ (if isStrong l[i].op then hs[C i + 1]? = some h1 else hs[cntS (l.map (·.op)) 0 (fun k => L.getD k false)]? = some h1) := by
        unfold evalOp
        cases hk : l[i].op.kind with
        | pure =>
          refine ⟨h, by simp [s1 hk], ?_⟩
          rw [if_neg (by simp [isStrong, hk])]; exact hcur
        | weak =>
          have hmem := s2 hk
          have hok' := List.all_eq_true.1 hchk _ hmem
          unfold Chk.ok at hok'
          dsimp only at hok'
          rw [List.all_eq_true] at hok'
          have hlo : l[i].lo ≤ cntS (l.map (·.op)) 0 (fun k => L.getD k false) := by
            rw [hd.lo i _ hao]
            exact cntS_mono _ _ fun k x hk hx hb => by rw [Nat.zero_add] at hb ⊢; exact D1 k hb
          have hhi : cntS (l.map (·.op)) 0 (fun k => L.getD k false) ≤ l[i].hi := by
            rw [hd.hi i _ hao]
            refine cntS_mono _ _ fun k x hk hx hb => ?_
            rw [Nat.zero_add] at hb ⊢
            cases e : ((bef ops.toList []).getD k 0).testBit i with
            | false => rfl
            | true => rw [D2 k e] at hb; cases hb
          have hsub : ∀ c : Nat, l[i].lo ≤ c → c ≤ l[i].hi → hs[c]? = some h → (match evalWeak (mask l[i].names (E i)) h l[i].op with | some v => AV.same v (V i) | none => false) = true := by
            intro c h1 h2 h3
            have := hok' (c - l[i].lo) (List.mem_range.2 (by omega))
            simp only [show l[i].lo + (c - l[i].lo) = c by omega, h3] at this
            exact this
          have := hsub _ hlo hhi hcur
          split at this
          · rename_i u hu
            have := AV.same_eq _ _ this
            subst this
            refine ⟨h, by simp [hu], ?_⟩
            rw [if_neg (by simp [isStrong, hk])]; exact hcur
          · cases this
        | strong =>
          obtain ⟨hA, hB, c1, c2, c3⟩ := s3 hk
          have hso : isStrong l[i].op = true := kind_strong.2 hk
          rw [hC hso, c1] at hcur
          simp at hcur; subst hcur
          exact ⟨hB, by simpa using c3, by rw [if_pos hso]; exact c2⟩
      obtain ⟨h1, hev1, hev2⟩ := hev
      -- the operands, at the slots that it names
      have hnames := hd.names i _ _ ho hao
      let ρ : Operand → Value := fun x => match x with
        | .tmp t => if l[i].names.contains t then a.tmps.getD t undef else undef
        | x => a.eval x
      have hop : Opds φ (mask l[i].names (E i)) ρ := by
        intro x y hxy
        cases x with
        | tmp t =>
          simp [cOpd] at hxy; subst hxy
          show VR φ ((mask l[i].names (E i)).getD t .undef) (if l[i].names.contains t then a.tmps.getD t undef else undef)
          by_cases hc : l[i].names.contains t = true
          · rw [mask_get hc, if_pos hc]
            refine hslot t ?_
            unfold slotsOf
            rw [hnames] at hc
            simp only [List.mem_append]
            exact .inl (.inr (by simpa using hc))
          · have hc : l[i].names.contains t = false := by simpa using hc
            rw [mask_out hc, if_neg (by rw [hc]; simp)]; exact vr_undef
        | const v =>
          obtain ⟨b, hb, rfl⟩ := Option.map_eq_some_iff.1 hxy
          exact ofBase_vr hb
        | func f =>
          simp [cOpd] at hxy; subst hxy
          simp only [AOpd.ev]
          show VR φ _ (a.eval (.func f))
          simp only [Act.eval, VR]
          exact ⟨_, _, rfl, VRs.nil, VRs.nil⟩
        | global g => cases hxy
      have hρ : execOp a.eval ops[i] = execOp ρ ops[i] := by
        refine execOp_congr _ (fun css b hsel => ?_) fun x hx => ?_
        · have := hok.op
          unfold cOp at this
          rw [hsel] at this
          simp at this
        · cases x with
          | tmp t =>
            have hc : l[i].names.contains t = true := by
              rw [hnames]
              simp only [tmpsOf, List.contains_iff_mem, List.mem_filterMap]
              exact ⟨.tmp t, by simpa using hx, rfl⟩
            show a.tmps.getD t undef = (if l[i].names.contains t then a.tmps.getD t undef else undef)
            rw [if_pos hc]
          | _ => rfl
      refine .inl (op_wp hcs hmt hrel hok.op hop hρ hev1 fun φ' w' v' k1 k2 k3 => ?_)
      exact ih _ φ' _ _ (DInv.next hd hC0 hst hI hio ho hao hSi D1 D2 k1 k2 k3 hev2) hcpt
    · rw [if_neg hw]
      have hw : wanted (E i) l[i].guard = false := by simpa using hw
      obtain ⟨s1, s2⟩ := hstep.2.1 hw
      refine ih _ φ _ _ (DInv.next (h1 := h) hd hC0 hst hI hio ho hao hSi D1 D2 (by rw [s1]; exact vr_undef) hrel (Stp.refl _ _) ?_) hcpt
      split
      · rename_i hso
        obtain ⟨hA, c1, c2⟩ := s2 hso
        rw [hC hso, c1] at hcur
        simp at hcur; subst hcur
        exact c2
      · exact hcur
end
end Go.Proofs.Ytkbekibljcdbjaa.Ax
