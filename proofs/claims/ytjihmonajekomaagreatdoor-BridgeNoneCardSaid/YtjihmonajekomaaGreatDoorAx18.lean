/- A region whose order is open, the whole. Conditions: as each theorem states. -/
import Derived.Test.YtjihmonajekomaaGreatDoorAx17
namespace Go.Proofs.YtjihmonajekomaaGreatDoor.Ax
open Go Go.RowKit
set_option linter.unusedVariables false
set_option linter.unusedSectionVars false

/-! ### What comes before in every order -/
theorem bits_fold (acc : List Nat) (j : Nat) : ∀ (l : List Edge) (s : Nat), (l.foldl (fun s e => if Region.binds .any e then s ||| 2 ^ e.on ||| acc.getD e.on 0 else s) s).testBit j = true →
    s.testBit j = true ∨ ∃ e ∈ l, Region.binds .any e = true ∧ (e.on = j ∨ (acc.getD e.on 0).testBit j = true)
  | [], s, h => .inl h
  | e :: l, s, h => by
    simp only [List.foldl_cons] at h
    rcases bits_fold acc j l _ h with h1 | ⟨e', he', hb⟩
    · split at h1
      · rename_i hbind
        rw [Nat.testBit_or, Nat.testBit_or] at h1
        simp only [Bool.or_eq_true] at h1
        rcases h1 with (h1 | h1) | h1
        · exact .inl h1
        · rw [Nat.testBit_two_pow] at h1
          exact .inr ⟨e, by simp, hbind, .inl (by simpa using h1)⟩
        · exact .inr ⟨e, by simp, hbind, .inr h1⟩
      · exact .inl h1
    · exact .inr ⟨e', by simp [he'], hb⟩

theorem bef_pre : ∀ (l : List Oper) (acc : List Nat) (i : Nat), i < acc.length → (bef l acc)[i]? = acc[i]?
  | [], acc, i, h => rfl
  | o :: r, acc, i, h => by
    simp only [bef]
    rw [bef_pre r _ i (by simp; omega), List.getElem?_append_left h]

theorem bef_get : ∀ (l : List Oper) (acc : List Nat) (k : Nat) (o : Oper), l[k]? = some o → ∃ pre : List Nat, pre.length = acc.length + k ∧ (∀ i, i < pre.length → (bef l acc)[i]? = pre[i]?) ∧ (bef l acc)[acc.length + k]? = some (bitsOf o pre)
  | [], _, _, _, h => by simp at h
  | x :: r, acc, k, o, h => by
    cases k with
    | zero =>
      simp at h; subst h
      refine ⟨acc, by simp, fun i hi => bef_pre _ _ _ hi, ?_⟩
      simp only [bef, Nat.add_zero]
      rw [bef_pre r _ _ (by simp), List.getElem?_append_right (Nat.le_refl _)]
      simp
    | succ k =>
      obtain ⟨pre, h1, h2, h3⟩ := bef_get r (acc ++ [bitsOf x acc]) k o (by simpa using h)
      simp only [bef]
      simp only [List.length_append, List.length_cons, List.length_nil] at h1 h3
      exact ⟨pre, by omega, h2, by rw [show acc.length + (k + 1) = acc.length + (0 + 1) + k by omega]; exact h3⟩

theorem bef_closed {ops : Array Oper} {i j : Nat} {o : Oper} (ho : ops[i]? = some o) (hb : ((bef ops.toList []).getD i 0).testBit j = true) :
    ∃ e ∈ o.after.toList, Region.binds .any e = true ∧ (e.on = j ∨ ((bef ops.toList []).getD e.on 0).testBit j = true) := by
  obtain ⟨pre, h1, h2, h3⟩ := bef_get ops.toList [] i o (by simpa using ho)
  simp only [List.length_nil, Nat.zero_add] at h1 h3
  simp only [List.getD, h3, Option.getD_some] at hb
  rcases bits_fold pre j _ _ hb with h | ⟨e, he, hbind, h⟩
  · simp at h
  · refine ⟨e, he, hbind, ?_⟩
    rcases h with h | h
    · exact .inl h
    · refine .inr ?_
      by_cases hl : e.on < pre.length
      · simp only [List.getD, h2 _ hl]; exact h
      · have : pre.getD e.on 0 = 0 := by simp [List.getD, List.getElem?_eq_none (by omega : pre.length ≤ e.on)]
        rw [this] at h; simp at h

theorem cntS_mono {S S' : Nat → Bool} : ∀ (ops : List AOp) (o : Nat), (∀ (k : Nat) (x : AOp), ops[k]? = some x → isStrong x = true → S (o + k) = true → S' (o + k) = true) → cntS ops o S ≤ cntS ops o S'
  | [], _, _ => Nat.le_refl _
  | x :: r, o, h => by
    have ih := cntS_mono (S := S) (S' := S') r (o + 1) (fun k y hk hy hs => by
      have := h (k + 1) y (by simpa using hk) hy
      have e : o + 1 + k = o + (k + 1) := by omega
      rw [e] at hs ⊢; exact this hs)
    simp only [cntS]
    by_cases hx : isStrong x = true
    · have := h 0 x rfl hx
      simp only [Nat.add_zero] at this
      simp only [hx, Bool.true_and]
      split
      · rename_i hs; rw [if_pos (this hs)]; omega
      · omega
    · simp only [hx, Bool.false_and]; omega

/-! ### New blocks that stand apart -/
theorem isAlloc_strong {o : AOp} (h : o.isAlloc = true) : isStrong o = true := by cases o <;> simp_all [AOp.isAlloc, isStrong, AOp.kind]

section
variable {P : Program} {ifs : List TypeId} {φ : Emb} {w0 w : World} {h : AH} {env : List AV} {ρ : Operand → Value} {mt : Methods} {call : Callee}

theorem somes_vr {φ : Emb} {vs : List AV} {us : Array Value} (hv : VRs φ vs us.toList) : ∀ (j : Nat) (v : AV), (vs.map some)[j]? = some (some v) → ∃ u, us[0 + j]? = some u ∧ VR φ v u := by
  intro j v hj
  obtain ⟨u, hu, hvr⟩ := hv.get (somes_get hj)
  exact ⟨u, by simpa using hu, hvr⟩

theorem late_run {o : Oper} {ao : AOp} (hc : cOp P ifs o = some ao) (ho : Opds φ env ρ) (ha : ao.isAlloc = true) {v : AV} {h1 : AH} (hv : evalStrong mt call env h ao = some (v, h1)) :
    ∃ f blk, lateOf env ao = some (f, blk) ∧ v = f h.next ∧ h1 = h.push (blk h.next) ∧ (∀ i, roOf (blk i) = false) ∧
      ∀ w, ∃ obj N val, (execOp ρ o).run P w = .ok (.value val) (w.alloc obj) ∧ ∀ (φ' : Emb) (i : Nat), φ' i = some (w.heap.size, 0, N) → VR φ' (f i) val ∧ BR P ifs φ' (blk i) obj 0 N := by
  obtain ⟨dst, op, ty, pos, after, guard⟩ := o
  cases ao <;> simp only [AOp.isAlloc, Bool.false_eq_true] at ha
  case alloc zero e =>
    have hop : op = .alloc e ∧ zeroCellsOf P e = some zero := by
      cases op <;> simp only [cOp] at hc
      case alloc e' =>
        obtain ⟨z, hz, hq⟩ := Option.map_eq_some_iff.1 hc
        simp only [AOp.alloc.injEq] at hq
        obtain ⟨rfl, rfl⟩ := hq
        exact ⟨rfl, hz⟩
      case makeMap t r => cases r <;> simp at hc
      case next it isS => cases isS <;> ((repeat' split at hc) <;> first | (cases hc; done) | (simp at hc; done) | (obtain ⟨_, _, hq⟩ := Option.map_eq_some_iff.1 hc; cases hq; done))
      case call c =>
        split at hc
        · ((repeat' split at hc) <;> first | (cases hc; done) | (simp at hc; done))
        · ((repeat' split at hc) <;> first | (cases hc; done) | (simp at hc; done))
        · unfold cBuiltin at hc
          (repeat' split at hc) <;> first | (cases hc; done) | (simp at hc; done) | (obtain ⟨_, _, hq⟩ := Option.map_eq_some_iff.1 hc; cases hq; done)
      all_goals ((repeat' split at hc) <;> first | (cases hc; done) | (simp at hc; done) | (obtain ⟨_, _, hq⟩ := Option.map_eq_some_iff.1 hc; cases hq; done))
    obtain ⟨rfl, hz⟩ := hop
    simp only [evalStrong, Option.some.injEq, Prod.mk.injEq] at hv
    obtain ⟨rfl, rfl⟩ := hv
    refine ⟨_, _, rfl, rfl, rfl, fun _ => rfl, fun w => ?_⟩
    obtain ⟨i, zv, h1, h2, h3, h4⟩ := zeroCells_spec hz φ
    refine ⟨.cells zv.cells e, zv.cells.size, .pointer (some ⟨w.heap.size, 0, none⟩), by simp [execOp, Instr.alloc, run_zeroV w h1 h2, newVar, newRow], fun φ' i' hi => ⟨by simp only [VR]; exact ⟨_, 0, _, hi, rfl⟩, ?_⟩⟩
    obtain ⟨i2, zv2, k1, k2, k3, k4⟩ := zeroCells_spec hz φ'
    rw [h1] at k1; simp at k1; subst k1
    rw [h2] at k2; simp at k2; subst k2
    exact ⟨zv.cells, (0, 0), rfl, rfl, by simpa using Nat.le_of_eq k3.len, fun _ j _ => by omega, fun _ => ⟨rfl, fun _ => rfl⟩, somes_vr k3⟩
  case mkMap =>
    have hop : ∃ t, op = .makeMap t none := by
      cases op <;> simp only [cOp] at hc
      case makeMap t r => cases r <;> simp at hc; exact ⟨t, rfl⟩
      case next it isS => cases isS <;> ((repeat' split at hc) <;> first | (cases hc; done) | (simp at hc; done) | (obtain ⟨_, _, hq⟩ := Option.map_eq_some_iff.1 hc; cases hq; done))
      case call c =>
        split at hc
        · ((repeat' split at hc) <;> first | (cases hc; done) | (simp at hc; done))
        · ((repeat' split at hc) <;> first | (cases hc; done) | (simp at hc; done))
        · unfold cBuiltin at hc
          (repeat' split at hc) <;> first | (cases hc; done) | (simp at hc; done) | (obtain ⟨_, _, hq⟩ := Option.map_eq_some_iff.1 hc; cases hq; done)
      all_goals ((repeat' split at hc) <;> first | (cases hc; done) | (simp at hc; done) | (obtain ⟨_, _, hq⟩ := Option.map_eq_some_iff.1 hc; cases hq; done))
    obtain ⟨t, rfl⟩ := hop
    simp only [evalStrong, Option.some.injEq, Prod.mk.injEq] at hv
    obtain ⟨rfl, rfl⟩ := hv
    refine ⟨_, _, rfl, rfl, rfl, fun _ => rfl, fun w => ⟨.map #[] 0, 0, .map (some w.heap.size), by simp [execOp, Instr.makeMap], fun φ' i' hi => ⟨by simp only [VR]; exact ⟨_, 0, hi, rfl⟩, rfl, #[], rfl, rfl⟩⟩⟩
  case mkSlice zero e size bytes len cap =>
    have hop : ∃ t l c i, op = .makeSlice t l c ∧ P.underlying t = some (.slice e) ∧ P.info? e = some i ∧ zeroCellsOf P e = some zero ∧ zero.length = i.size ∧ 1 ≤ i.size ∧ size = i.size ∧ bytes = i.bytes ∧ cOpd l = some len ∧ cOpd c = some cap := by
      cases op <;> simp only [cOp] at hc
      case makeSlice t l c =>
        split at hc
        case h_2 => cases hc
        rename_i e' h1
        split at hc
        case h_2 => cases hc
        rename_i i z l' c' h2 h3 h4 h5
        split at hc <;> simp at hc
        rename_i hb
        obtain ⟨rfl, rfl, rfl, rfl, rfl, rfl⟩ := hc
        exact ⟨t, l, c, i, rfl, h1, h2, h3, hb.1, hb.2, rfl, rfl, h4, h5⟩
      case makeMap t r => cases r <;> simp at hc
      case next it isS => cases isS <;> ((repeat' split at hc) <;> first | (cases hc; done) | (simp at hc; done) | (obtain ⟨_, _, hq⟩ := Option.map_eq_some_iff.1 hc; cases hq; done))
      case call c =>
        split at hc
        · ((repeat' split at hc) <;> first | (cases hc; done) | (simp at hc; done))
        · ((repeat' split at hc) <;> first | (cases hc; done) | (simp at hc; done))
        · unfold cBuiltin at hc
          (repeat' split at hc) <;> first | (cases hc; done) | (simp at hc; done) | (obtain ⟨_, _, hq⟩ := Option.map_eq_some_iff.1 hc; cases hq; done)
      all_goals ((repeat' split at hc) <;> first | (cases hc; done) | (simp at hc; done) | (obtain ⟨_, _, hq⟩ := Option.map_eq_some_iff.1 hc; cases hq; done))
    obtain ⟨t, l, c, i, rfl, ht, hi, hz, hzl, hs1, rfl, rfl, hlo, hco⟩ := hop
    simp only [evalStrong] at hv
    split at hv
    case h_2 => cases hv
    rename_i ln cn el ec
    split at hv
    case isFalse => cases hv
    rename_i hb
    simp only [Option.some.injEq, Prod.mk.injEq] at hv
    obtain ⟨rfl, rfl⟩ := hv
    refine ⟨fun i' => .slice (some (i', 0)) ln.toNat cn.toNat i.size, fun i' => .cells ((copies zero cn.toNat).map some) e i' 0 false false true, by simp only [lateOf, el, ec, if_pos hb], rfl, rfl, fun _ => rfl, fun w => ?_⟩
    have hl := ho l _ hlo
    have hcv := ho c _ hco
    rw [el] at hl
    rw [ec] at hcv
    have hl := vr_int hl
    have hcv := vr_int hcv
    obtain ⟨i2, zv, h1, h2, h3, h4⟩ := zeroCells_spec hz φ
    rw [hi] at h1; simp at h1; subst h1
    have hzv : zv.cells.size = i.size := by have := h3.len; simp at this; omega
    have hc63 : cn < 9223372036854775808 := by have := hb.2.2.2; unfold maxText at this; omega
    have hwl : IntKind.i64.wrap ln = ln := by rw [IntKind.wrap_i64]; omega
    have hwc : IntKind.i64.wrap cn = cn := by rw [IntKind.wrap_i64]; omega
    have hbase : ∀ φ', VRs φ' (copies zero cn.toNat) ((Array.range (cn.toNat * i.size)).map ((if cn.toNat * i.size = 0 then (#[] : Array Value) else zv.cells)[· % (if cn.toNat * i.size = 0 then (#[] : Array Value) else zv.cells).size]!)).toList := by
      intro φ'
      obtain ⟨i3, zv3, k1, k2, k3, k4⟩ := zeroCells_spec hz φ'
      rw [hi] at k1; simp at k1; subst k1
      rw [h2] at k2; simp at k2; subst k2
      by_cases h0 : cn.toNat * i.size = 0
      · have : cn.toNat = 0 := by rcases Nat.mul_eq_zero.1 h0 with h | h <;> omega
        rw [this]
        simp [copies, VRs]
      · rw [if_neg h0]
        have := copies_vr k3 cn.toNat
        rw [hzv] at this
        rw [hzv]; exact this
    refine ⟨.cells ((Array.range (cn.toNat * i.size)).map ((if cn.toNat * i.size = 0 then (#[] : Array Value) else zv.cells)[· % (if cn.toNat * i.size = 0 then (#[] : Array Value) else zv.cells).size]!)) e, cn.toNat * i.size, .slice (some ⟨w.heap.size, 0, none⟩) ln.toNat cn.toNat, ?_, fun φ' i' hi' => ⟨?_, ?_⟩⟩
    · have g1 : ¬ (cn < 0) := by omega
      have g2 : ¬ (281474976710656 < i.bytes * cn) := by rw [Int.mul_comm]; have := hb.2.2.1; unfold room at this; omega
      have g3 : ¬ (ln < 0) := by omega
      have g4 : ¬ (cn < ln) := by omega
      by_cases h0 : cn.toNat * i.size = 0
      · simp [execOp, hl, hcv, Instr.makeSlice, run_und w ht, asInt, asIntOf, run_tinfo w hi, run_size w (show szOf P e = some i.size by simp [szOf, hi]), hwl, hwc, g1, g2, g3, g4, h0, newRow]
      · simp [execOp, hl, hcv, Instr.makeSlice, run_und w ht, asInt, asIntOf, run_tinfo w hi, run_size w (show szOf P e = some i.size by simp [szOf, hi]), hwl, hwc, g1, g2, g3, g4, h0, newRow, run_zeroV w hi h2]
    · simp only [VR]
      exact ⟨_, 0, _, cn.toNat, _, hi', rfl, by omega, Nat.le_refl _, .inr ⟨rfl, by simp⟩⟩
    · exact ⟨_, (0, 0), rfl, by simp, by simpa using Nat.le_of_eq (hbase φ').len, fun _ j _ => by omega, fun _ => ⟨rfl, fun _ => rfl⟩, somes_vr (hbase φ')⟩

/-- A block of the model's that nobody knew of becomes a new block of the evaluator's. -/
theorem Rel.adopt (hr : Rel P ifs φ w0 h w) {b N : Nat} {blk : ABlk} {o : Obj} (hb : w.heap[b]? = some o) (hB : w0.heap.size ≤ b) (hno : ∀ j co N', φ j ≠ some (b, co, N')) (hblk : BR P ifs (upd φ h.next (b, 0, N)) blk o 0 N) :
    Rel P ifs (upd φ h.next (b, 0, N)) w0 (h.push blk) w := by
  have hn := hr.none_next
  have he : Ext φ (upd φ h.next (b, 0, N)) := ext_upd hn
  have hblt : b < w.heap.size := (Array.getElem?_eq_some_iff.1 hb).1
  have hcase : ∀ i b' co2 N', upd φ h.next (b, 0, N) i = some (b', co2, N') → (i = h.next ∧ b' = b ∧ co2 = 0 ∧ N' = N) ∨ (i ≠ h.next ∧ φ i = some (b', co2, N')) := by
    intro i b' co2 N' hi
    unfold upd at hi
    by_cases e : i = h.next
    · rw [if_pos e] at hi; simp at hi; exact .inl ⟨e, hi.1.symm, hi.2.1.symm, hi.2.2.symm⟩
    · rw [if_neg e] at hi; exact .inr ⟨e, hi⟩
  refine ⟨hr.below, ?_, ?_, ?_, ?_, ?_⟩
  · intro j b' c N' hj
    rcases hcase _ _ _ _ hj with ⟨rfl, rfl, _, _⟩ | ⟨_, h2⟩
    · exact ⟨by simp [AH.next_push], hblt⟩
    · have := hr.dom _ _ _ _ h2; rw [AH.next_push]; omega
  · intro j hj
    rw [AH.get_push] at hj
    unfold upd
    by_cases e : j = h.next
    · exact ⟨_, if_pos e⟩
    · rw [if_neg e] at hj ⊢; exact hr.all j hj
  · intro j b' c N' hj
    rcases hcase _ _ _ _ hj with ⟨rfl, rfl, rfl, rfl⟩ | ⟨h1, h2⟩
    · exact ⟨o, hb, by rw [AH.get_push, if_pos rfl]; exact hblk⟩
    · obtain ⟨o', k1, k2⟩ := hr.blk _ _ _ _ h2
      exact ⟨o', k1, by rw [AH.get_push, if_neg h1]; exact BR.ext P ifs he k2⟩
  · intro j k b' c c' N1 N2 hjk hj hk
    rcases hcase _ _ _ _ hj with ⟨rfl, rfl, rfl, _⟩ | ⟨h1, h2⟩
    · rcases hcase _ _ _ _ hk with ⟨rfl, _⟩ | ⟨k1, k2⟩
      · exact absurd rfl hjk
      · exact absurd k2 (hno _ _ _)
    · rcases hcase _ _ _ _ hk with ⟨rfl, rfl, rfl, _⟩ | ⟨k1, k2⟩
      · exact absurd h2 (hno _ _ _)
      · rw [AH.get_push, if_neg h1, AH.get_push, if_neg k1]; exact hr.ni _ _ _ _ _ _ _ hjk h2 k2
  · intro j b' c N' hj hro'
    rcases hcase _ _ _ _ hj with ⟨rfl, rfl, _, _⟩ | ⟨h1, h2⟩
    · exact hB
    · rw [AH.get_push, if_neg h1] at hro'; exact hr.own _ _ _ _ h2 hro'
end

/-! ### Where a region whose order is open stands -/
def lt (l : List AOper) (s : Nat) : Bool := match l[s]? with | some o => o.late | none => false
def sg (l : List AOper) (s : Nat) : Bool := match l[s]? with | some o => isStrong o.op | none => false
def isA (l : List AOper) (s : Nat) : Bool := !lt l s && (List.range l.length).any fun g => lt l g && decide (s < g)
def ag (l : List AOper) (s : Nat) : Bool := sg l s && (lt l s || isA l s)
def doneB (l : List AOper) (S : Nat → Bool) : Bool := (List.range l.length).all fun s => !ag l s || S s
def hidx (l : List AOper) (S : Nat → Bool) : Nat := if doneB l S then cntS (l.map (·.op)) 0 S else cntS (l.map (·.op)) 0 fun k => S k && isA l k

theorem lt_spec {l : List AOper} {s : Nat} (h : lt l s = true) : ∃ o, l[s]? = some o ∧ o.late = true := by
  unfold lt at h
  split at h
  · exact ⟨_, by assumption, h⟩
  · cases h
theorem lt_of {l : List AOper} {s : Nat} {o : AOper} (h : l[s]? = some o) : lt l s = o.late := by simp [lt, h]
theorem sg_of {l : List AOper} {s : Nat} {o : AOper} (h : l[s]? = some o) : sg l s = isStrong o.op := by simp [sg, h]
theorem isA_iff {l : List AOper} {s : Nat} : isA l s = true ↔ lt l s = false ∧ ∃ g, g < l.length ∧ lt l g = true ∧ s < g := by
  simp [isA]
theorem done_iff {l : List AOper} {S : Nat → Bool} : doneB l S = true ↔ ∀ s, s < l.length → ag l s = true → S s = true := by
  unfold doneB
  rw [List.all_eq_true]
  constructor
  · intro h s hs ha
    have := h s (List.mem_range.2 hs)
    simpa [ha] using this
  · intro h s hs
    cases e : ag l s with
    | false => rfl
    | true => simpa using h s (List.mem_range.1 hs) e
theorem lt_lt {l : List AOper} {s : Nat} (h : lt l s = true) : s < l.length := by
  obtain ⟨o, ho, _⟩ := lt_spec h
  exact (List.getElem?_eq_some_iff.1 ho).1

/-- Counting only looks at the operations that turn the heap. -/
theorem cnt_congr {l : List AOper} {S S' : Nat → Bool} (h : ∀ k, k < l.length → sg l k = true → S k = S' k) : cntS (l.map (·.op)) 0 S = cntS (l.map (·.op)) 0 S' := by
  refine cntS_congr _ _ fun k x hk hx => ?_
  have hkl : k < l.length := by have := (List.getElem?_eq_some_iff.1 hk).1; simpa using this
  rw [Nat.zero_add]
  refine h k hkl ?_
  simp [hkl] at hk
  simp [sg, hkl, hk, hx]
theorem cnt_mono {l : List AOper} {S S' : Nat → Bool} (h : ∀ k, k < l.length → sg l k = true → S k = true → S' k = true) : cntS (l.map (·.op)) 0 S ≤ cntS (l.map (·.op)) 0 S' := by
  refine cntS_mono _ _ fun k x hk hx hs => ?_
  have hkl : k < l.length := by have := (List.getElem?_eq_some_iff.1 hk).1; simpa using this
  rw [Nat.zero_add] at hs ⊢
  refine h k hkl ?_ hs
  simp [hkl] at hk
  simp [sg, hkl, hk, hx]

/-- A compiled region whose order is open. -/
structure DrawOk (P : Program) (ifs : List TypeId) (ops : Array Oper) (l : List AOper) : Prop where
  reg : RegionOk P ifs ops l
  names : ∀ (i : Nat) (o : Oper) (ao : AOper), ops[i]? = some o → l[i]? = some ao → ao.names = tmpsOf o.op.operands
  lo : ∀ (i : Nat) (ao : AOper), l[i]? = some ao → ao.lo = cntS (l.map (·.op)) 0 (fun s => ((bef ops.toList []).getD i 0).testBit s && !lt l s)
  hi : ∀ (i : Nat) (ao : AOper), l[i]? = some ao → ao.hi = cntS (l.map (·.op)) 0 (fun s => !((bef ops.toList []).getD s 0).testBit i)
  slots : ∀ (j : Nat) (o : Oper) (t i : Nat) (p : Oper), ops[j]? = some o → t ∈ slotsOf ops o → ops[i]? = some p → p.dst = some t → i ≠ j → ((bef ops.toList []).getD (max i j) 0).testBit (min i j) = true
  edges : ∀ (j : Nat) (o : Oper) (e : Edge), ops[j]? = some o → e ∈ o.after.toList → Region.binds .any e = true → e.on < j
  chain : ∀ (i j : Nat), sg l i = true → sg l j = true → lt l i = false → lt l j = false → i < j → ((bef ops.toList []).getD j 0).testBit i = true
  late : ∀ (i : Nat) (ao : AOper), l[i]? = some ao → ao.late = true → ao.op.isAlloc = true ∧ ao.guard = none
  grp : ∀ (s g g' : Nat), sg l s = true → lt l s = false → lt l g = true → lt l g' = true → (s < g ↔ s < g')
  aft : ∀ (s g : Nat), sg l s = true → lt l s = false → lt l g = true → g < s → ((bef ops.toList []).getD s 0).testBit g = true
  named : ∀ (g j : Nat) (y : AOper) (o : Oper) (t : Nat), l[g]? = some y → y.late = true → y.dst = some t → ops[j]? = some o → t ∈ slotsOf ops o → j ≠ g → ∀ s, ag l s = true → ((bef ops.toList []).getD j 0).testBit s = true

section
variable {P : Program} {ifs : List TypeId} {φ0 : Emb} {w0 wS : World} {mt : Methods} {call : Callee} {ops : Array Oper} {l : List AOper} {hs : List AH} {cs : List Chk} {E : Nat → List AV} {V : Nat → AV} {C : Nat → Nat} {a0 : Act}

theorem DrawOk.lateStrong (hd : DrawOk P ifs ops l) {g : Nat} (h : lt l g = true) : sg l g = true := by
  obtain ⟨o, ho, hl⟩ := lt_spec h
  rw [sg_of ho]
  exact isAlloc_strong (hd.late g o ho hl).1

theorem DrawOk.ag_late (hd : DrawOk P ifs ops l) {g : Nat} (h : lt l g = true) : ag l g = true := by simp [ag, hd.lateStrong h, h]

/-- What is known of a new block that the evaluator does not yet have. -/
def PendOk (P : Program) (ifs : List TypeId) (φ : Emb) (w0 w : World) (env : List AV) (y : AOper) (a : Act) (b N : Nat) (obj : Obj) (val : Value) : Prop :=
  w.heap[b]? = some obj ∧ w0.heap.size ≤ b ∧ (∀ j co N', φ j ≠ some (b, co, N')) ∧
  (∃ f blk, lateOf (mask y.names env) y.op = some (f, blk) ∧ ∀ (φ' : Emb) (i : Nat), φ' i = some (b, 0, N) → VR φ' (f i) val ∧ BR P ifs φ' (blk i) obj 0 N) ∧
  (∀ t, y.dst = some t → t < a.tmps.size → a.tmps.getD t undef = val)

structure DInv (P : Program) (ifs : List TypeId) (φ0 : Emb) (w0 wS : World) (ops : Array Oper) (l : List AOper) (hs : List AH) (E : Nat → List AV) (V : Nat → AV) (a0 : Act) (φ : Emb) (L : Array Bool) (a : Act) (w : World) : Prop where
  size : L.size = ops.size
  closed : ∀ i j, L.getD i false = true → ((bef ops.toList []).getD i 0).testBit j = true → L.getD j false = true
  rel : ∃ h, hs[hidx l (fun k => L.getD k false)]? = some h ∧ Rel P ifs φ w0 h w
  stp : Stp φ0 φ wS w
  len : a.tmps.size = (E 0).length
  vals : ∀ t, t < (E 0).length → (∀ g y, l[g]? = some y → y.late = true → y.dst = some t → L.getD g false = true → doneB l (fun k => L.getD k false) = true) →
    VR φ (valAt l V (E 0) (fun k => L.getD k false) ops.size t) (a.tmps.getD t undef)
  dfr : a.defers = a0.defers
  pend : doneB l (fun k => L.getD k false) = false → ∃ (β NN : Nat → Nat) (obj : Nat → Obj) (val : Nat → Value),
    (∀ g y, l[g]? = some y → y.late = true → L.getD g false = true → PendOk P ifs φ w0 w (E g) y a (β g) (NN g) (obj g) (val g)) ∧
    (∀ g g', lt l g = true → lt l g' = true → L.getD g false = true → L.getD g' false = true → g ≠ g' → β g ≠ β g') ∧
    (∀ g, lt l g = true → L.getD g false = true → wS.heap.size ≤ β g)

theorem getD_set {L : Array Bool} {i k : Nat} (hi : i < L.size) : (L.setIfInBounds i true).getD k false = (L.getD k false || decide (k = i)) := by
  rw [Array.getD_eq_getD_getElem?, Array.getD_eq_getD_getElem?, Array.getElem?_setIfInBounds]
  by_cases e : i = k
  · subst e; simp [hi]
  · simp [e, show ¬ k = i from fun x => e x.symm]

theorem getD_tf {L : Array Bool} {i : Nat} (hi : i < L.size) : L.getD i true = L.getD i false := by
  simp [Array.getD_eq_getD_getElem?, hi]

theorem wr_iff (hr : RegionOk P ifs ops l) {k t : Nat} (h : wr l k t = true) : ∃ p, ops[k]? = some p ∧ p.dst = some t := by
  unfold wr at h
  split at h
  case h_2 => cases h
  rename_i ao hao
  have hk : k < l.length := (List.getElem?_eq_some_iff.1 hao).1
  have hko : k < ops.size := by have := hr.1; omega
  have := (hr.2 k ops[k] ao (by simp [hko]) hao).dst
  exact ⟨ops[k], by simp [hko], by rw [← this]; simpa using h⟩

theorem putTmps_size (a : Act) (d : Option Nat) (v : Value) : (a.put d v).tmps.size = a.tmps.size := by cases d <;> simp [Act.put]

theorem putTmps_get (a : Act) (d : Option Nat) (v : Value) (t : Nat) (ht : t < a.tmps.size) : (a.put d v).tmps.getD t undef = if d = some t then v else a.tmps.getD t undef := by
  cases d with
  | none => simp [Act.put]
  | some d =>
    simp only [Act.put]
    rw [Array.getD_eq_getD_getElem?, Array.getD_eq_getD_getElem?, Array.getElem?_setIfInBounds]
    by_cases e : d = t
    · subst e; simp [ht]
    · simp [e]

theorem valAt_only {V : Nat → AV} {env0 : List AV} {S : Nat → Bool} {t g : Nat} : ∀ (n : Nat), g < n → S g = true → wr l g t = true → (∀ k, k < n → k ≠ g → wr l k t = true → S k = false) → valAt l V env0 S n t = V g
  | 0, h, _, _, _ => by omega
  | n + 1, h, hS, hw, hk => by
    simp only [valAt]
    by_cases e : g = n
    · subst e; simp [hS, hw]
    · have : (S n && wr l n t) = false := by
        by_cases hwn : wr l n t = true
        · rw [hk n (by omega) (fun x => e x.symm) hwn]; rfl
        · simp [hwn]
      rw [this]
      exact valAt_only n (by omega) hS hw (fun k h1 h2 h3 => hk k (by omega) h2 h3)

/-- THE NEW BLOCKS THAT STOOD APART become the evaluator's, in the text's order. -/
theorem materialize (hd : DrawOk P ifs ops l) (hC : ∀ i, i ≤ l.length → C i = cntS (l.map (·.op)) 0 (fun k => decide (k < i))) (hst : ∀ (i : Nat) (o : AOper), l[i]? = some o → StepOk mt call hs cs o (E i) (C i) (V i) (C (i + 1)))
    {φ : Emb} {a : Act} {w : World} {β NN : Nat → Nat} {obj : Nat → Obj} {val : Nat → Value}
    (hp : ∀ g y, l[g]? = some y → y.late = true → PendOk P ifs φ w0 w (E g) y a (β g) (NN g) (obj g) (val g)) (hdis : ∀ g g', lt l g = true → lt l g' = true → g ≠ g' → β g ≠ β g')
    {h : AH} (hcur : hs[cntS (l.map (·.op)) 0 (isA l)]? = some h) (hr : Rel P ifs φ w0 h w) :
    ∀ i, i ≤ l.length → ∃ φ' h', hs[cntS (l.map (·.op)) 0 (fun k => isA l k || (lt l k && decide (k < i)))]? = some h' ∧ Rel P ifs φ' w0 h' w ∧ Ext φ φ' ∧
      (∀ j b co N, φ' j = some (b, co, N) → (∃ j' co' N', φ j' = some (b, co', N')) ∨ ∃ g, g < i ∧ lt l g = true ∧ b = β g) ∧
      (∀ g y, l[g]? = some y → y.late = true → g < i → VR φ' (V g) (val g)) := by
  intro i
  induction i with
  | zero =>
    intro _
    refine ⟨φ, h, ?_, hr, Ext.refl _, fun j b co N hj => .inl ⟨j, co, N, hj⟩, fun g y _ _ hg => by omega⟩
    have : (fun k => isA l k || (lt l k && decide (k < 0))) = isA l := by funext k; simp
    rw [this]; exact hcur
  | succ i ih =>
    intro hi
    obtain ⟨φ', h', c1, c2, c3, c4, c5⟩ := ih (by omega)
    have hil : i < l.length := by omega
    have hao : l[i]? = some l[i] := by simp [hil]
    by_cases hlt : lt l i = true
    · have hlate : l[i].late = true := by rw [← lt_of hao]; exact hlt
      -- the place in the row of heaps
      have hplace : ∀ j, (j = i ∨ j = i + 1) → cntS (l.map (·.op)) 0 (fun k => isA l k || (lt l k && decide (k < j))) = C j := by
        intro j hj
        rw [hC j (by omega)]
        refine cnt_congr fun k hk hs' => ?_
        cases e : lt l k with
        | true =>
          have : isA l k = false := by simp [isA, e]
          rw [this]; simp
        | false =>
          simp only [Bool.false_and, Bool.or_false]
          have hAk : isA l k = decide (k < i) := by
            rw [Bool.eq_iff_iff, isA_iff, decide_eq_true_eq]
            constructor
            · rintro ⟨_, g, hg1, hg2, hg3⟩
              exact (hd.grp k g i hs' e hg2 hlt).1 hg3
            · intro hki; exact ⟨e, i, hil, hlt, hki⟩
          rw [hAk]
          rcases hj with rfl | rfl
          · rfl
          · have : k ≠ i := by rintro rfl; rw [e] at hlt; cases hlt
            by_cases hki : k < i
            · simp [hki]; omega
            · simp [hki]; omega
      rw [hplace i (.inl rfl)] at c1
      have hstep := hst i l[i] hao
      have hso : isStrong l[i].op = true := by rw [← sg_of hao]; exact hd.lateStrong hlt
      obtain ⟨ha1, ha2⟩ := hd.late i _ hao hlate
      have hw : wanted (E i) l[i].guard = true := by rw [ha2]; rfl
      obtain ⟨_, _, s3⟩ := hstep.2.2 hw
      obtain ⟨hA, hB, d1, d2, d3⟩ := s3 (kind_strong.1 hso)
      rw [c1] at d1; simp at d1; subst d1
      obtain ⟨p1, p2, p3, ⟨f, blk, p4, p5⟩, p6⟩ := hp i _ hao hlate
      have hres : V i = f h'.next ∧ hB = h'.push (blk h'.next) := by
        cases hop : l[i].op <;> rw [hop] at ha1 p4 d3 <;> simp only [AOp.isAlloc, Bool.false_eq_true] at ha1
        · simp only [lateOf, Option.some.injEq, Prod.mk.injEq] at p4
          simp only [evalStrong, Option.some.injEq, Prod.mk.injEq] at d3
          obtain ⟨rfl, rfl⟩ := p4
          exact ⟨d3.1.symm, d3.2.symm⟩
        · simp only [lateOf, Option.some.injEq, Prod.mk.injEq] at p4
          simp only [evalStrong, Option.some.injEq, Prod.mk.injEq] at d3
          obtain ⟨rfl, rfl⟩ := p4
          exact ⟨d3.1.symm, d3.2.symm⟩
        · simp only [lateOf] at p4
          simp only [evalStrong] at d3
          split at p4
          case h_2 => cases p4
          rename_i lv cv e1 e2
          simp only [e1, e2] at d3
          split at p4
          case isFalse => cases p4
          rename_i hb
          rw [if_pos hb] at d3
          simp only [Option.some.injEq, Prod.mk.injEq] at p4 d3
          obtain ⟨rfl, rfl⟩ := p4
          exact ⟨d3.1.symm, d3.2.symm⟩
      have hno : ∀ j co N', φ' j ≠ some (β i, co, N') := by
        intro j co N' hj
        rcases c4 j _ _ _ hj with ⟨j', co', N'', hj'⟩ | ⟨g, hg1, hg2, hg3⟩
        · exact p3 _ _ _ hj'
        · exact hdis i g hlt hg2 (by omega) hg3
      have hnew := p5 (upd φ' h'.next (β i, 0, NN i)) h'.next (upd_same _ _ _)
      have hr2 := c2.adopt p1 p2 hno hnew.2
      refine ⟨upd φ' h'.next (β i, 0, NN i), hB, ?_, by rw [hres.2]; exact hr2, c3.trans (ext_upd c2.none_next), ?_, ?_⟩
      · rw [hplace (i + 1) (.inr rfl)]
        have := hstep.1
        rw [if_pos hso] at this
        rw [this]; exact d2
      · intro j b co N hj
        unfold upd at hj
        by_cases e : j = h'.next
        · rw [if_pos e] at hj; simp at hj
          exact .inr ⟨i, by omega, hlt, hj.1.symm⟩
        · rw [if_neg e] at hj
          rcases c4 j _ _ _ hj with h1 | ⟨g, hg1, hg2, hg3⟩
          · exact .inl h1
          · exact .inr ⟨g, by omega, hg2, hg3⟩
      · intro g y hy hyl hg
        by_cases e : g = i
        · subst e; rw [hres.1]; exact hnew.1
        · exact VR.ext (ext_upd c2.none_next) _ _ (c5 g y hy hyl (by omega))
    · have hlt : lt l i = false := by simpa using hlt
      refine ⟨φ', h', ?_, c2, c3, fun j b co N hj => ?_, fun g y hy hyl hg => ?_⟩
      · have : (fun k => isA l k || (lt l k && decide (k < i + 1))) = (fun k => isA l k || (lt l k && decide (k < i))) := by
          funext k
          by_cases e : k = i
          · subst e; simp [hlt]
          · have : decide (k < i + 1) = decide (k < i) := by
              by_cases hk : k < i
              · simp [hk]; omega
              · simp [hk]; omega
            rw [this]
        rw [this]; exact c1
      · rcases c4 j _ _ _ hj with h1 | ⟨g, hg1, hg2, hg3⟩
        · exact .inl h1
        · exact .inr ⟨g, by omega, hg2, hg3⟩
      · have : g ≠ i := by rintro rfl; rw [lt_of hy, hyl] at hlt; cases hlt
        exact c5 g y hy hyl (by omega)
end

section
variable {P : Program} {ifs : List TypeId} {φ0 : Emb} {w0 wS : World} {mt : Methods} {call : Callee} {ops : Array Oper} {l : List AOper} {hs : List AH} {cs : List Chk} {E : Nat → List AV} {V : Nat → AV} {C : Nat → Nat} {a0 : Act}

theorem Rel.extra {φ : Emb} {w : World} {h : AH} (hr : Rel P ifs φ w0 h w) (o : Obj) : Rel P ifs φ w0 h (w.alloc o) ∧ Stp φ φ w (w.alloc o) := by
  refine ⟨⟨hr.below.alloc hr.below.size _, fun i b co N hi => ?_, hr.all, fun i b co N hi => ?_, hr.ni, hr.own⟩, ⟨Ext.refl _, by simp, fun i b co N hi _ => ⟨i, co, N, hi⟩, fun b hb _ => Below.heap_alloc w o b hb⟩⟩
  · have := hr.dom _ _ _ _ hi; rw [World.size_alloc]; omega
  · obtain ⟨o', k1, k2⟩ := hr.blk _ _ _ _ hi
    exact ⟨o', (Below.heap_alloc w o b (hr.dom _ _ _ _ hi).2).trans k1, k2⟩

/-- Behind a step of the first part: the blocks that stood apart are taken in when all are there. -/
theorem close_pend (hd : DrawOk P ifs ops l) (hC : ∀ i, i ≤ l.length → C i = cntS (l.map (·.op)) 0 (fun k => decide (k < i))) (hst : ∀ (i : Nat) (o : AOper), l[i]? = some o → StepOk mt call hs cs o (E i) (C i) (V i) (C (i + 1)))
    {φ : Emb} {L : Array Bool} {a : Act} {w : World} (hsize : L.size = ops.size) (hclosed : ∀ i j, L.getD i false = true → ((bef ops.toList []).getD i 0).testBit j = true → L.getD j false = true)
    {h : AH} (hcur : hs[cntS (l.map (·.op)) 0 (fun k => L.getD k false && isA l k)]? = some h) (hr : Rel P ifs φ w0 h w) (hstp : Stp φ0 φ wS w) (hlen : a.tmps.size = (E 0).length) (hdfr : a.defers = a0.defers)
    (hvals : ∀ t, t < (E 0).length → (∀ (g : Nat) (y : AOper), l[g]? = some y → y.late = true → y.dst = some t → L.getD g false = false) → VR φ (valAt l V (E 0) (fun k => L.getD k false) ops.size t) (a.tmps.getD t undef))
    {β NN : Nat → Nat} {obj : Nat → Obj} {val : Nat → Value} (hp : ∀ g y, l[g]? = some y → y.late = true → L.getD g false = true → PendOk P ifs φ w0 w (E g) y a (β g) (NN g) (obj g) (val g))
    (hdis : ∀ g g', lt l g = true → lt l g' = true → L.getD g false = true → L.getD g' false = true → g ≠ g' → β g ≠ β g') (hnew : ∀ g, lt l g = true → L.getD g false = true → wS.heap.size ≤ β g)
    (hnoB : ∀ k, k < l.length → sg l k = true → lt l k = false → isA l k = false → L.getD k false = false)
    (honly : ∀ (g : Nat) (y : AOper) (t : Nat), l[g]? = some y → y.late = true → y.dst = some t → L.getD g false = true → ∀ k, k < ops.size → k ≠ g → wr l k t = true → L.getD k false = false) :
    ∃ φ', DInv P ifs φ0 w0 wS ops l hs E V a0 φ' L a w := by
  have hln : l.length = ops.size := hd.reg.1
  cases hdone : doneB l (fun k => L.getD k false) with
  | false =>
    refine ⟨φ, hsize, hclosed, ⟨h, by unfold hidx; rw [hdone]; exact hcur, hr⟩, hstp, hlen, fun t ht hg => hvals t ht (fun g y hy hyl hyd => ?_), hdfr, fun _ => ⟨β, NN, obj, val, hp, hdis, hnew⟩⟩
    cases e : L.getD g false with
    | false => rfl
    | true => have := hg g y hy hyl hyd e; rw [hdone] at this; cases this
  | true =>
    have hall := done_iff.1 hdone
    have hLg : ∀ g, lt l g = true → L.getD g false = true := fun g hg => hall g (lt_lt hg) (hd.ag_late hg)
    have hcur' : hs[cntS (l.map (·.op)) 0 (isA l)]? = some h := by
      rw [← hcur]; congr 1
      refine cnt_congr fun k hk hsk => ?_
      cases e : isA l k with
      | false => simp
      | true => rw [hall k hk (by simp [ag, hsk, e])]; rfl
    obtain ⟨φ', h', c1, c2, c3, c4, c5⟩ := materialize hd hC hst (fun g y hy hyl => hp g y hy hyl (hLg g (by rw [lt_of hy]; exact hyl))) (fun g g' h1 h2 hne => hdis g g' h1 h2 (hLg g h1) (hLg g' h2) hne) hcur' hr l.length (Nat.le_refl _)
    refine ⟨φ', hsize, hclosed, ⟨h', ?_, c2⟩, ⟨hstp.ext.trans c3, hstp.size, fun i b co N hi hb => ?_, hstp.keep⟩, hlen, fun t ht _ => ?_, hdfr, fun hh => by rw [hdone] at hh; cases hh⟩
    · unfold hidx
      rw [hdone, if_pos rfl, ← c1]
      congr 1
      refine cnt_congr fun k hk hsk => ?_
      cases e : lt l k with
      | true => rw [hLg k e]; simp [hk]
      | false =>
        simp only [Bool.false_and, Bool.or_false]
        cases eA : isA l k with
        | true => exact hall k hk (by simp [ag, hsk, eA])
        | false => exact hnoB k hk hsk e eA
    · rcases c4 i _ _ _ hi with ⟨j', co', N', hj'⟩ | ⟨g, hg1, hg2, rfl⟩
      · exact hstp.rng j' b co' N' hj' hb
      · have := hnew g hg2 (hLg g hg2); omega
    · by_cases hG : ∃ (g : Nat) (y : AOper), l[g]? = some y ∧ y.late = true ∧ y.dst = some t
      · obtain ⟨g, y, hy, hyl, hyd⟩ := hG
        have hgl : lt l g = true := by rw [lt_of hy]; exact hyl
        have hgn : g < ops.size := by have := lt_lt hgl; omega
        have e1 : valAt l V (E 0) (fun k => L.getD k false) ops.size t = V g := valAt_only ops.size hgn (hLg g hgl) (by simp [wr, hy, hyd]) (fun k hk hne hw => honly g y t hy hyl hyd (hLg g hgl) k hk hne hw)
        obtain ⟨_, _, _, _, p6⟩ := hp g y hy hyl (hLg g hgl)
        rw [e1, p6 t hyd (by rw [hlen]; exact ht)]
        exact c5 g y hy hyl (lt_lt hgl)
      · exact VR.ext c3 _ _ (hvals t ht (fun g y hy hyl hyd => absurd ⟨g, y, hy, hyl, hyd⟩ hG))

/-- What stood apart still does, behind a step that names none of their slots. -/
theorem PendOk.keep {φ φ' : Emb} {w w' : World} {env : List AV} {y : AOper} {a : Act} {b N : Nat} {obj : Obj} {val : Value} (hp : PendOk P ifs φ w0 w env y a b N obj val) (hs' : Stp φ φ' w w') {d : Option Nat} {v : Value} (hne : ∀ t, y.dst = some t → d ≠ some t) :
    PendOk P ifs φ' w0 w' env y (a.put d v) b N obj val := by
  obtain ⟨p1, p2, p3, p4, p5⟩ := hp
  have hb : b < w.heap.size := (Array.getElem?_eq_some_iff.1 p1).1
  refine ⟨(hs'.keep b hb p3).trans p1, p2, fun j co N' hj => ?_, p4, fun t ht hts => ?_⟩
  · obtain ⟨j', co', N'', hj'⟩ := hs'.rng j b co N' hj hb
    exact p3 _ _ _ hj'
  · rw [putTmps_size] at hts
    rw [putTmps_get _ _ _ _ hts, if_neg (hne t ht)]; exact p5 t ht hts

section step
variable (hd : DrawOk P ifs ops l) (hC0 : C 0 = 0) (hst : ∀ (i : Nat) (o : AOper), l[i]? = some o → StepOk mt call hs cs o (E i) (C i) (V i) (C (i + 1)) ∧ E (i + 1) = putEnv (E i) o.dst (V i))
  {φ φ' : Emb} {L : Array Bool} {a : Act} {w w' : World} (hI : DInv P ifs φ0 w0 wS ops l hs E V a0 φ L a w) {i : Nat} {o : Oper} {ao : AOper} (hi : i < ops.size) (ho : ops[i]? = some o) (hao : l[i]? = some ao) (hSi : L.getD i false = false)
  (D1 : ∀ j, ((bef ops.toList []).getD i 0).testBit j = true → L.getD j false = true) (D2 : ∀ j, ((bef ops.toList []).getD j 0).testBit i = true → L.getD j false = false)
include hd hi ho hao hSi D1 D2

theorem closed_next (hI : DInv P ifs φ0 w0 wS ops l hs E V a0 φ L a w) : ∀ k j, (L.setIfInBounds i true).getD k false = true → ((bef ops.toList []).getD k 0).testBit j = true → (L.setIfInBounds i true).getD j false = true := by
  have hiL : i < L.size := by rw [hI.size]; exact hi
  intro k j hk hb
  rw [getD_set hiL] at hk ⊢
  simp only [Bool.or_eq_true, decide_eq_true_eq] at hk ⊢
  rcases hk with hk | rfl
  · exact .inl (hI.closed k j hk hb)
  · exact .inl (D1 j hb)

theorem noself : ((bef ops.toList []).getD i 0).testBit i = false := by
  cases e : ((bef ops.toList []).getD i 0).testBit i with
  | false => rfl
  | true => have := D1 i e; rw [hSi] at this; cases this

/-- The values behind a step, at a slot. -/
theorem vals_next (hI : DInv P ifs φ0 w0 wS ops l hs E V a0 φ L a w) {v' : Value} (hv : VR φ' (V i) v') (hs' : Stp φ φ' w w') {t : Nat} (ht : t < (E 0).length)
    (hold : o.dst ≠ some t → VR φ (valAt l V (E 0) (fun k => L.getD k false) ops.size t) (a.tmps.getD t undef)) :
    VR φ' (valAt l V (E 0) (fun k => (L.setIfInBounds i true).getD k false) ops.size t) ((a.put o.dst v').tmps.getD t undef) := by
  have hiL : i < L.size := by rw [hI.size]; exact hi
  have hok := hd.reg.2 i o ao ho hao
  rw [putTmps_get _ _ _ _ (by rw [hI.len]; exact ht)]
  by_cases hdt : o.dst = some t
  · rw [if_pos hdt]
    have hwr : wr l i t = true := by simp [wr, hao, hok.dst, hdt]
    have e1 : valAt l V (E 0) (fun k => (L.setIfInBounds i true).getD k false) ops.size t = V i := by
      rw [valAt_none (i := i + 1) ops.size (by omega) (fun k h1 h2 hk => ?_)]
      · simp only [valAt, getD_set hiL, hwr, decide_true, Bool.or_true, Bool.true_and, if_true]
      · obtain ⟨p, hp, hpd⟩ := wr_iff hd.reg hk
        have := hd.slots i o t k p ho (by unfold slotsOf; rw [hdt]; simp) hp hpd (by omega)
        rw [show max k i = k by omega, show min k i = i by omega] at this
        rw [getD_set hiL, D2 k this]
        simp; omega
    rw [e1]; exact hv
  · rw [if_neg hdt]
    have e1 : valAt l V (E 0) (fun k => (L.setIfInBounds i true).getD k false) ops.size t = valAt l V (E 0) (fun k => L.getD k false) ops.size t := by
      refine valAt_congr _ fun k hk hw => ?_
      rw [getD_set hiL]
      have : k ≠ i := by
        rintro rfl
        obtain ⟨p, hp, hpd⟩ := wr_iff hd.reg hw
        rw [ho] at hp; simp at hp; subst hp
        exact hdt hpd
      simp [this]
    rw [e1]; exact VR.ext hs'.ext _ _ (hold hdt)

theorem ag_unlisted_not_done (hag : ag l i = true) : doneB l (fun k => L.getD k false) = false := by
  cases e : doneB l (fun k => L.getD k false) with
  | false => rfl
  | true =>
    have := done_iff.1 e i (by have := hd.reg.1; omega) hag
    rw [hSi] at this; cases this

/-- None of the slots of those that stand apart is named by an operation of the first part. -/
theorem dst_ne (hag : ag l i = true ∨ doneB l (fun k => L.getD k false) = false) {g : Nat} {y : AOper} (hy : l[g]? = some y) (hyl : y.late = true) (hgi : g ≠ i) : ∀ t, y.dst = some t → o.dst ≠ some t := by
  intro t ht hdt
  have hn := hd.named g i y o t hy hyl ht ho (by unfold slotsOf; rw [hdt]; simp) (fun e => hgi e.symm)
  rcases hag with hag | hnd
  · have := D1 i (hn i hag)
    rw [hSi] at this; cases this
  · have : doneB l (fun k => L.getD k false) = true := done_iff.2 fun s hs ha => D1 s (hn s ha)
    rw [hnd] at this; cases this

theorem noB_next (hag : ag l i = true) (hI : DInv P ifs φ0 w0 wS ops l hs E V a0 φ L a w) : ∀ k, k < l.length → sg l k = true → lt l k = false → isA l k = false → (L.setIfInBounds i true).getD k false = false := by
  have hiL : i < L.size := by rw [hI.size]; exact hi
  intro k hk hsk hlk hAk
  have hki : k ≠ i := by
    rintro rfl
    simp only [ag, hsk, hlk, hAk, Bool.or_self, Bool.and_false] at hag; cases hag
  rw [getD_set hiL]
  simp only [hki, decide_false, Bool.or_false]
  refine D2 k ?_
  have hnoG : ∀ g, lt l g = true → g < k := by
    intro g hg
    have hgl := lt_lt hg
    have h1 : ¬ k < g := fun h => by
      have : isA l k = true := isA_iff.2 ⟨hlk, g, hgl, hg, h⟩
      rw [hAk] at this; cases this
    have h2 : g ≠ k := by rintro rfl; rw [hlk] at hg; cases hg
    omega
  cases hli : lt l i with
  | true => exact hd.aft k i hsk hlk hli (hnoG i hli)
  | false =>
    have hAi : isA l i = true := by
      have := hag
      simp only [ag, hli, Bool.false_or, Bool.and_eq_true] at this
      exact this.2
    obtain ⟨_, g, _, hg, hig⟩ := isA_iff.1 hAi
    have hsi : sg l i = true := by simp only [ag, Bool.and_eq_true] at hag; exact hag.1
    exact hd.chain i k hsi hsk hli hlk (by have := hnoG g hg; omega)

theorem only_next (hag : ag l i = true) (hI : DInv P ifs φ0 w0 wS ops l hs E V a0 φ L a w) : ∀ (g : Nat) (y : AOper) (t : Nat), l[g]? = some y → y.late = true → y.dst = some t → (L.setIfInBounds i true).getD g false = true → ∀ k, k < ops.size → k ≠ g → wr l k t = true → (L.setIfInBounds i true).getD k false = false := by
  have hiL : i < L.size := by rw [hI.size]; exact hi
  intro g y t hy hyl hyd _ k hk hkg hw
  obtain ⟨p, hp, hpd⟩ := wr_iff hd.reg hw
  have hn := hd.named g k y p t hy hyl hyd hp (by unfold slotsOf; rw [hpd]; simp) hkg i hag
  have hki : k ≠ i := by
    rintro rfl
    have := noself hd hi ho hao hSi D1 D2
    rw [hn] at this; cases this
  rw [getD_set hiL, D2 k hn]
  simp [hki]

theorem C_all (hC0 : C 0 = 0) (hst : ∀ (i : Nat) (o : AOper), l[i]? = some o → StepOk mt call hs cs o (E i) (C i) (V i) (C (i + 1)) ∧ E (i + 1) = putEnv (E i) o.dst (V i)) : ∀ j, j ≤ l.length → C j = cntS (l.map (·.op)) 0 (fun k => decide (k < j)) :=
  fun j hj => C_cnt (l := l) (V := V) (E := E) (C := C) hC0 (fun i o h => (hst i o h).1) j hj

/-- An operation of the first chain: how many lie before it. -/
theorem cntA (hs1 : sg l i = true) (hl1 : lt l i = false) (hA1 : isA l i = true) : cntS (l.map (·.op)) 0 (fun k => L.getD k false && isA l k) = cntS (l.map (·.op)) 0 (fun k => decide (k < i)) := by
  refine cnt_congr fun k hk hsk => ?_
  obtain ⟨_, g, hg1, hg2, hg3⟩ := isA_iff.1 hA1
  rcases Nat.lt_trichotomy k i with h | h | h
  · have hlk : lt l k = false := by
      cases e : lt l k with
      | false => rfl
      | true => have := (hd.grp i k g hs1 hl1 e hg2).2 hg3; omega
    have hAk : isA l k = true := isA_iff.2 ⟨hlk, g, hg1, hg2, by omega⟩
    rw [hAk, D1 k (hd.chain k i hsk hs1 hlk hl1 h)]; simp [h]
  · subst h; rw [hSi]; simp
  · cases eA : isA l k with
    | false => simp; omega
    | true =>
      have hlk := (isA_iff.1 eA).1
      rw [D2 k (hd.chain i k hs1 hsk hl1 hlk h)]; simp; omega

/-- An operation behind those that stand apart, or where none does: how many lie before it. -/
theorem cntB (hs1 : sg l i = true) (hl1 : lt l i = false) (hA1 : isA l i = false) : doneB l (fun k => L.getD k false) = true ∧ cntS (l.map (·.op)) 0 (fun k => L.getD k false) = cntS (l.map (·.op)) 0 (fun k => decide (k < i)) := by
  have hil : i < l.length := by have := hd.reg.1; omega
  have hG : ∀ g, lt l g = true → g < i := by
    intro g hg
    have h1 : ¬ i < g := fun h => by
      have : isA l i = true := isA_iff.2 ⟨hl1, g, lt_lt hg, hg, h⟩
      rw [hA1] at this; cases this
    have h2 : g ≠ i := by rintro rfl; rw [hl1] at hg; cases hg
    omega
  constructor
  · refine done_iff.2 fun s hsl ha => ?_
    simp only [ag, Bool.and_eq_true, Bool.or_eq_true] at ha
    rcases ha.2 with h | h
    · exact D1 s (hd.aft i s hs1 hl1 h (hG s h))
    · obtain ⟨hls, g, _, hg, hsg⟩ := isA_iff.1 h
      exact D1 s (hd.chain s i ha.1 hs1 hls hl1 (by have := hG g hg; omega))
  · refine cnt_congr fun k hk hsk => ?_
    rcases Nat.lt_trichotomy k i with h | h | h
    · cases e : lt l k with
      | true => rw [D1 k (hd.aft i k hs1 hl1 e h)]; simp [h]
      | false => rw [D1 k (hd.chain k i hsk hs1 e hl1 h)]; simp [h]
    · subst h; rw [hSi]; simp
    · have hlk : lt l k = false := by
        cases e : lt l k with
        | false => rfl
        | true => have := hG k e; omega
      rw [D2 k (hd.chain i k hs1 hsk hl1 hlk h)]; simp; omega

theorem cnt_next {S : Nat → Bool} (hs1 : sg l i = true) (hS : cntS (l.map (·.op)) 0 S = cntS (l.map (·.op)) 0 (fun k => decide (k < i))) : cntS (l.map (·.op)) 0 (fun k => decide (k < i + 1)) = cntS (l.map (·.op)) 0 S + 1 := by
  have hil : i < l.length := by have := hd.reg.1; omega
  have h1 := cntS_step (l.map (·.op)) 0 i l[i].op (by simp [hil])
  simp only [Nat.zero_add] at h1
  rw [h1, hS]
  have : isStrong l[i].op = true := by rw [← sg_of (by simp [hil] : l[i]? = some l[i])]; exact hs1
  rw [this]; rfl
end step
end

section
variable {P : Program} {ifs : List TypeId} {φ0 : Emb} {w0 wS : World} {mt : Methods} {call : Callee} {ops : Array Oper} {l : List AOper} {hs : List AH} {cs : List Chk} {E : Nat → List AV} {V : Nat → AV} {C : Nat → Nat} {a0 : Act}

/-- BEHIND A STEP that is no new block that stands apart. -/
theorem DInv.next (hd : DrawOk P ifs ops l) (hC0 : C 0 = 0) (hst : ∀ (i : Nat) (o : AOper), l[i]? = some o → StepOk mt call hs cs o (E i) (C i) (V i) (C (i + 1)) ∧ E (i + 1) = putEnv (E i) o.dst (V i))
    {φ φ' : Emb} {L : Array Bool} {a : Act} {w w' : World} (hI : DInv P ifs φ0 w0 wS ops l hs E V a0 φ L a w) {i : Nat} {o : Oper} {ao : AOper} (hi : i < ops.size) (ho : ops[i]? = some o) (hao : l[i]? = some ao) (hSi : L.getD i false = false)
    (D1 : ∀ j, ((bef ops.toList []).getD i 0).testBit j = true → L.getD j false = true) (D2 : ∀ j, ((bef ops.toList []).getD j 0).testBit i = true → L.getD j false = false) (hnl : ao.late = false)
    {v' : Value} (hv : VR φ' (V i) v') {h1 : AH} (hr : Rel P ifs φ' w0 h1 w') (hs' : Stp φ φ' w w')
    (hh : if isStrong ao.op then hs[C i + 1]? = some h1 else hs[hidx l (fun k => L.getD k false)]? = some h1) : ∃ φ'', DInv P ifs φ0 w0 wS ops l hs E V a0 φ'' (L.setIfInBounds i true) (a.put o.dst v') w' := by
  have hln : l.length = ops.size := hd.reg.1
  have hil : i < l.length := by omega
  have hiL : i < L.size := by rw [hI.size]; exact hi
  have hCall := C_all hd hi ho hao hSi D1 D2 hC0 hst
  have hli : lt l i = false := by rw [lt_of hao]; exact hnl
  have hsz : (L.setIfInBounds i true).size = ops.size := by simpa using hI.size
  have hcl := closed_next hd hi ho hao hSi D1 D2 hI
  have hlen : (a.put o.dst v').tmps.size = (E 0).length := by rw [putTmps_size]; exact hI.len
  have hdf : (a.put o.dst v').defers = a0.defers := by rw [put_defers]; exact hI.dfr
  by_cases hA : sg l i = true ∧ isA l i = true
  · -- of the first chain
    have hag : ag l i = true := by simp [ag, hA.1, hA.2]
    have hnd := ag_unlisted_not_done hd hi ho hao hSi D1 D2 hag
    obtain ⟨β, NN, obj, val, q1, q2, q3⟩ := hI.pend hnd
    have hso : isStrong ao.op = true := by rw [← sg_of hao]; exact hA.1
    rw [if_pos hso] at hh
    have hgi : ∀ g, lt l g = true → g ≠ i := fun g hg e => by subst e; rw [hli] at hg; cases hg
    have hgL : ∀ g, lt l g = true → (L.setIfInBounds i true).getD g false = L.getD g false := fun g hg => by rw [getD_set hiL]; simp [hgi g hg]
    refine close_pend hd hCall (fun i o h => (hst i o h).1) hsz hcl (h := h1) ?_ hr (hI.stp.trans hs') hlen hdf ?_ (β := β) (NN := NN) (obj := obj) (val := val) ?_ ?_ ?_ (noB_next hd hi ho hao hSi D1 D2 hag hI) (only_next hd hi ho hao hSi D1 D2 hag hI)
    · have h2 := cntA hd hi ho hao hSi D1 D2 hA.1 hli hA.2
      have h3 := cnt_next hd hi ho hao hSi D1 D2 hA.1 h2
      have h4 : cntS (l.map (·.op)) 0 (fun k => (L.setIfInBounds i true).getD k false && isA l k) = cntS (l.map (·.op)) 0 (fun k => decide (k < i + 1)) := by
        refine cnt_congr fun k hk hsk => ?_
        rw [getD_set hiL]
        obtain ⟨_, g, hg1, hg2, hg3⟩ := isA_iff.1 hA.2
        rcases Nat.lt_trichotomy k i with h | h | h
        · have hlk : lt l k = false := by
            cases e : lt l k with
            | false => rfl
            | true => have := (hd.grp i k g hA.1 hli e hg2).2 hg3; omega
          have hAk : isA l k = true := isA_iff.2 ⟨hlk, g, hg1, hg2, by omega⟩
          rw [hAk, D1 k (hd.chain k i hsk hA.1 hlk hli h)]; simp; omega
        · subst h; rw [hA.2]; simp
        · cases eA : isA l k with
          | false => simp; omega
          | true =>
            have hlk := (isA_iff.1 eA).1
            rw [D2 k (hd.chain i k hA.1 hsk hli hlk h)]; simp; omega
      rw [h4, h3, h2, ← hCall i (by omega)]; exact hh
    · intro t ht hg
      refine vals_next hd hi ho hao hSi D1 D2 hI hv hs' ht fun hdt => hI.vals t ht fun g y hy hyl hyd hLg => ?_
      have := hg g y hy hyl hyd
      rw [hgL g (by rw [lt_of hy]; exact hyl), hLg] at this; cases this
    · intro g y hy hyl hLg
      have hgl : lt l g = true := by rw [lt_of hy]; exact hyl
      rw [hgL g hgl] at hLg
      exact (q1 g y hy hyl hLg).keep hs' (dst_ne hd hi ho hao hSi D1 D2 (.inl hag) hy hyl (hgi g hgl))
    · intro g g' h1 h2 k1 k2 hne
      rw [hgL g h1] at k1; rw [hgL g' h2] at k2
      exact q2 g g' h1 h2 k1 k2 hne
    · intro g h1 k1
      rw [hgL g h1] at k1
      exact q3 g h1 k1
  · -- behind them, or none that turns the heap
    have hnag : ag l i = false := by
      cases e : ag l i with
      | false => rfl
      | true =>
        simp only [ag, hli, Bool.false_or, Bool.and_eq_true] at e
        exact absurd e hA
    have hdn : doneB l (fun k => (L.setIfInBounds i true).getD k false) = doneB l (fun k => L.getD k false) := by
      rw [Bool.eq_iff_iff, done_iff, done_iff]
      constructor
      · intro h s hs1 ha
        have := h s hs1 ha
        rw [getD_set hiL] at this
        have hne : s ≠ i := by rintro rfl; rw [hnag] at ha; cases ha
        simpa [hne] using this
      · intro h s hs1 ha
        rw [getD_set hiL, h s hs1 ha]; rfl
    refine ⟨φ', hsz, hcl, ⟨h1, ?_, hr⟩, hI.stp.trans hs', hlen, fun t ht hg => ?_, hdf, fun hnd => ?_⟩
    · split at hh
      · rename_i hso
        have hsi : sg l i = true := by rw [sg_of hao]; exact hso
        have hAi : isA l i = false := by
          cases e : isA l i with
          | false => rfl
          | true => exact absurd ⟨hsi, e⟩ hA
        obtain ⟨b1, b2⟩ := cntB hd hi ho hao hSi D1 D2 hsi hli hAi
        unfold hidx
        rw [hdn, b1, if_pos rfl]
        have h3 := cnt_next hd hi ho hao hSi D1 D2 hsi b2
        have h4 : cntS (l.map (·.op)) 0 (fun k => (L.setIfInBounds i true).getD k false) = cntS (l.map (·.op)) 0 (fun k => decide (k < i + 1)) := by
          have hG : ∀ g, lt l g = true → g < i := by
            intro g hg
            have h1 : ¬ i < g := fun h => by
              have : isA l i = true := isA_iff.2 ⟨hli, g, lt_lt hg, hg, h⟩
              rw [hAi] at this; cases this
            have h2 : g ≠ i := by rintro rfl; rw [hli] at hg; cases hg
            omega
          refine cnt_congr fun k hk hsk => ?_
          rw [getD_set hiL]
          rcases Nat.lt_trichotomy k i with h | h | h
          · cases e : lt l k with
            | true => rw [D1 k (hd.aft i k hsi hli e h)]; simp; omega
            | false => rw [D1 k (hd.chain k i hsk hsi e hli h)]; simp; omega
          · subst h; simp
          · have hlk : lt l k = false := by
              cases e : lt l k with
              | false => rfl
              | true => have := hG k e; omega
            rw [D2 k (hd.chain i k hsi hsk hli hlk h)]; simp; omega
        rw [h4, h3, b2, ← hCall i (by omega)]; exact hh
      · rename_i hso
        have hnsi : sg l i = false := by rw [sg_of hao]; simpa using hso
        have hcong : ∀ k, k < l.length → sg l k = true → (L.setIfInBounds i true).getD k false = L.getD k false := fun k _ hsk => by
          rw [getD_set hiL]
          have : k ≠ i := by rintro rfl; rw [hnsi] at hsk; cases hsk
          simp [this]
        have : hidx l (fun k => (L.setIfInBounds i true).getD k false) = hidx l (fun k => L.getD k false) := by
          unfold hidx
          rw [hdn, cnt_congr hcong, cnt_congr (S := fun k => (L.setIfInBounds i true).getD k false && isA l k) (S' := fun k => L.getD k false && isA l k) (fun k hk hsk => by rw [hcong k hk hsk])]
        rw [this]; exact hh
    · refine vals_next hd hi ho hao hSi D1 D2 hI hv hs' ht fun hdt => hI.vals t ht fun g y hy hyl hyd hLg => ?_
      rw [← hdn]
      exact hg g y hy hyl hyd (by rw [getD_set hiL, hLg]; rfl)
    · rw [hdn] at hnd
      obtain ⟨β, NN, obj, val, q1, q2, q3⟩ := hI.pend hnd
      have hgi : ∀ g, lt l g = true → g ≠ i := fun g hg e => by subst e; rw [hli] at hg; cases hg
      have hgL : ∀ g, lt l g = true → (L.setIfInBounds i true).getD g false = L.getD g false := fun g hg => by rw [getD_set hiL]; simp [hgi g hg]
      refine ⟨β, NN, obj, val, fun g y hy hyl hLg => ?_, fun g g' h1 h2 k1 k2 hne => ?_, fun g h1 k1 => ?_⟩
      · have hgl : lt l g = true := by rw [lt_of hy]; exact hyl
        rw [hgL g hgl] at hLg
        exact (q1 g y hy hyl hLg).keep hs' (dst_ne hd hi ho hao hSi D1 D2 (.inr hnd) hy hyl (hgi g hgl))
      · rw [hgL g h1] at k1; rw [hgL g' h2] at k2
        exact q2 g g' h1 h2 k1 k2 hne
      · rw [hgL g h1] at k1
        exact q3 g h1 k1

/-- BEHIND A NEW BLOCK that stands apart. -/
theorem DInv.nextLate (hd : DrawOk P ifs ops l) (hC0 : C 0 = 0) (hst : ∀ (i : Nat) (o : AOper), l[i]? = some o → StepOk mt call hs cs o (E i) (C i) (V i) (C (i + 1)) ∧ E (i + 1) = putEnv (E i) o.dst (V i))
    {φ : Emb} {L : Array Bool} {a : Act} {w : World} (hI : DInv P ifs φ0 w0 wS ops l hs E V a0 φ L a w) {i : Nat} {o : Oper} {ao : AOper} (hi : i < ops.size) (ho : ops[i]? = some o) (hao : l[i]? = some ao) (hSi : L.getD i false = false)
    (D1 : ∀ j, ((bef ops.toList []).getD i 0).testBit j = true → L.getD j false = true) (D2 : ∀ j, ((bef ops.toList []).getD j 0).testBit i = true → L.getD j false = false) (hlate : ao.late = true) (hwS : w0.heap.size ≤ wS.heap.size)
    {f : Nat → AV} {blk : Nat → ABlk} {N : Nat} {obj : Obj} {v' : Value} (hf : lateOf (mask ao.names (E i)) ao.op = some (f, blk)) (hb : ∀ (φ' : Emb) (j : Nat), φ' j = some (w.heap.size, 0, N) → VR φ' (f j) v' ∧ BR P ifs φ' (blk j) obj 0 N) :
    ∃ φ'', DInv P ifs φ0 w0 wS ops l hs E V a0 φ'' (L.setIfInBounds i true) (a.put o.dst v') (w.alloc obj) := by
  have hln : l.length = ops.size := hd.reg.1
  have hiL : i < L.size := by rw [hI.size]; exact hi
  have hok := hd.reg.2 i o ao ho hao
  have hCall := C_all hd hi ho hao hSi D1 D2 hC0 hst
  have hli : lt l i = true := by rw [lt_of hao]; exact hlate
  have hag := hd.ag_late hli
  have hnd := ag_unlisted_not_done hd hi ho hao hSi D1 D2 hag
  obtain ⟨β, NN, ob, val, q1, q2, q3⟩ := hI.pend hnd
  obtain ⟨h, hcur, hrel⟩ := hI.rel
  obtain ⟨hr2, hs2⟩ := hrel.extra obj
  have hAi : isA l i = false := by simp [isA, hli]
  have hwSw := hI.stp.size
  refine close_pend hd hCall (fun i o h => (hst i o h).1) (by simpa using hI.size) (closed_next hd hi ho hao hSi D1 D2 hI) (h := h) ?_ hr2 (hI.stp.trans hs2) (by rw [putTmps_size]; exact hI.len) (by rw [put_defers]; exact hI.dfr) ?_
    (β := fun g => if g = i then w.heap.size else β g) (NN := fun g => if g = i then N else NN g) (obj := fun g => if g = i then obj else ob g) (val := fun g => if g = i then v' else val g) ?_ ?_ ?_ (noB_next hd hi ho hao hSi D1 D2 hag hI) (only_next hd hi ho hao hSi D1 D2 hag hI)
  · unfold hidx at hcur
    rw [hnd, if_neg (by simp)] at hcur
    rw [← hcur]; congr 1
    refine cnt_congr fun k _ _ => ?_
    rw [getD_set hiL]
    by_cases e : k = i
    · subst e; rw [hAi]; simp
    · simp [e]
  · intro t ht hg
    have hdt : o.dst ≠ some t := fun hdt => by
      have := hg i ao hao hlate (by rw [hok.dst]; exact hdt)
      rw [getD_set hiL] at this; simp at this
    have hta : t < a.tmps.size := by rw [hI.len]; exact ht
    rw [putTmps_get _ _ _ _ hta, if_neg hdt]
    have e1 : valAt l V (E 0) (fun k => (L.setIfInBounds i true).getD k false) ops.size t = valAt l V (E 0) (fun k => L.getD k false) ops.size t := by
      refine valAt_congr _ fun k hk hw => ?_
      rw [getD_set hiL]
      have : k ≠ i := by
        rintro rfl
        obtain ⟨p, hp, hpd⟩ := wr_iff hd.reg hw
        rw [ho] at hp; simp at hp; subst hp
        exact hdt hpd
      simp [this]
    rw [e1]
    refine hI.vals t ht fun g y hy hyl hyd hLg => ?_
    have := hg g y hy hyl hyd
    rw [getD_set hiL, hLg] at this; cases this
  · intro g y hy hyl hLg
    by_cases e : g = i
    · subst e
      rw [hao] at hy; simp at hy; subst hy
      simp only [if_true]
      refine ⟨heap_alloc_new w _, by omega, fun j co N' hj => ?_, ⟨f, blk, hf, hb⟩, fun t ht hts => ?_⟩
      · have := (hrel.dom _ _ _ _ hj).2; omega
      · rw [putTmps_size] at hts
        rw [putTmps_get _ _ _ _ hts, if_pos (by rw [← hok.dst]; exact ht)]
    · simp only [e, if_false]
      have hLg' : L.getD g false = true := by rw [getD_set hiL] at hLg; simpa [e] using hLg
      exact (q1 g y hy hyl hLg').keep hs2 (dst_ne hd hi ho hao hSi D1 D2 (.inl hag) hy hyl e)
  · have hlt' : ∀ g, lt l g = true → (L.setIfInBounds i true).getD g false = true → g ≠ i → β g < w.heap.size := by
      intro g hg hLg hne
      obtain ⟨y, hy, hyl⟩ := lt_spec hg
      have hLg' : L.getD g false = true := by rw [getD_set hiL] at hLg; simpa [hne] using hLg
      exact (Array.getElem?_eq_some_iff.1 (q1 g y hy hyl hLg').1).1
    intro g g' h1 h2 k1 k2 hne
    by_cases e : g = i
    · by_cases e' : g' = i
      · exact absurd (e.trans e'.symm) hne
      · simp only [e, e', if_true, if_false]; have := hlt' g' h2 k2 e'; omega
    · by_cases e' : g' = i
      · simp only [e, e', if_true, if_false]; have := hlt' g h1 k1 e; omega
      · simp only [e, e', if_false]
        rw [getD_set hiL] at k1 k2
        exact q2 g g' h1 h2 (by simpa [e] using k1) (by simpa [e'] using k2) hne
  · intro g h1 k1
    by_cases e : g = i
    · simp only [e, if_true]; exact hwSw
    · simp only [e, if_false]
      rw [getD_set hiL] at k1
      exact q3 g h1 (by simpa [e] using k1)
end

section
variable {P : Program} {ifs : List TypeId} {φ0 : Emb} {w0 wS : World} {mt : Methods} {call : Callee} {ops : Array Oper} {l : List AOper} {hs : List AH} {cs : List Chk} {E : Nat → List AV} {V : Nat → AV} {C : Nat → Nat} {a0 : Act}

theorem draw_any {rd : Option Nat} (hcs : CallSound P ifs call) (hmt : MtOk P mt) (hd : DrawOk P ifs ops l) (hC0 : C 0 = 0) (hst : ∀ (i : Nat) (o : AOper), l[i]? = some o → StepOk mt call hs cs o (E i) (C i) (V i) (C (i + 1)) ∧ E (i + 1) = putEnv (E i) o.dst (V i))
    (hchk : cs.all (Chk.ok hs) = true) (hwS : w0.heap.size ≤ wS.heap.size) {h' : AH} (hlast : hs[C l.length]? = some h') {Q : Exit → Act → World → Prop}
    (hQ : ∀ φ' w' a', VRs φ' (E l.length) a'.tmps.toList → a'.defers = a0.defers → Rel P ifs φ' w0 h' w' → Stp φ0 φ' wS w' → Q .normal a' w') :
    ∀ (fuel : Nat) (L : Array Bool) (φ : Emb) (a : Act) (w : World), DInv P ifs φ0 w0 wS ops l hs E V a0 φ L a w → L.toList.countP (fun b => !b) ≤ fuel → wpAnyIn (FW rd) 0 P .any ops Q fuel L a w := by
  have hln : l.length = ops.size := hd.reg.1
  have hEl := fun i hi => E_len (l := l) (V := V) (E := E) (env0 := E 0) rfl (fun i o h => (hst i o h).2) i hi
  have hEv := fun i hi t ht => E_val (l := l) (V := V) (E := E) (env0 := E 0) rfl (fun i o h => (hst i o h).2) i hi t ht
  have hCc := fun i hi => C_cnt (l := l) (V := V) (E := E) (C := C) hC0 (fun i o h => (hst i o h).1) i hi
  -- at the end
  have hend : ∀ (L : Array Bool) (φ : Emb) (a : Act) (w : World), DInv P ifs φ0 w0 wS ops l hs E V a0 φ L a w → (∀ i, i < ops.size → L.getD i false = true) → Q .normal a w := by
    intro L φ a w hI hall
    have hdone : doneB l (fun k => L.getD k false) = true := done_iff.2 fun s hs1 _ => hall s (by omega)
    have hcnt : hidx l (fun k => L.getD k false) = C l.length := by
      unfold hidx
      rw [hdone, if_pos rfl, hCc l.length (Nat.le_refl _)]
      refine cnt_congr fun k hk _ => ?_
      rw [hall k (by omega)]; simp [hk]
    obtain ⟨h, h1, h2⟩ := hI.rel
    rw [hcnt, hlast] at h1
    simp at h1; subst h1
    refine hQ φ w a ?_ hI.dfr h2 hI.stp
    have hlen := hEl l.length (Nat.le_refl _)
    refine VRs.iff.2 ⟨by rw [hlen, ← hI.len]; simp, fun t x u hx hu => ?_⟩
    have ht : t < (E 0).length := by rw [← hlen]; exact (List.getElem?_eq_some_iff.1 hx).1
    have h3 := hI.vals t ht (fun _ _ _ _ _ _ => hdone)
    have e1 : valAt l V (E 0) (fun k => L.getD k false) ops.size t = x := by
      have := hEv l.length (Nat.le_refl _) t ht
      rw [show (E l.length).getD t .undef = x by simp [List.getD, hx]] at this
      rw [this, hln]
      exact valAt_congr _ fun k hk _ => hall k hk
    have e2 : a.tmps.getD t undef = u := by
      have : a.tmps[t]? = some u := by simpa using hu
      rw [Array.getD_eq_getD_getElem?, this]; rfl
    rw [e1, e2] at h3
    exact h3
  have hready : ∀ (L : Array Bool), L.size = ops.size → Region.ready .any ops L = [] → ∀ i, i < ops.size → L.getD i false = true := by
    intro L hsz hr i
    induction i using Nat.strongRecOn with
    | _ i ih =>
      intro hi
      cases e : L.getD i false with
      | true => rfl
      | false =>
        exfalso
        have : i ∈ Region.ready .any ops L := by
          unfold Region.ready
          rw [List.mem_filter]
          refine ⟨by simpa using hi, ?_⟩
          rw [getD_tf (by omega), e, Array.getElem?_eq_getElem hi]
          simp only [Bool.not_false, Bool.true_and, Option.map_some, Option.getD_some]
          rw [← Array.all_toList, List.all_eq_true]
          intro ed hed
          cases hb : Region.binds .any ed with
          | false => rfl
          | true =>
            have hlt := hd.edges i ops[i] ed (by simp [hi]) hed hb
            have := ih ed.on hlt (by omega)
            simp only [Bool.not_true, Bool.false_or]
            exact this
        rw [hr] at this; simp at this
  intro fuel
  induction fuel with
  | zero =>
    intro L φ a w hI hcp
    have hall : ∀ i, i < ops.size → L.getD i false = true := by
      intro i hi
      have h0 : L.toList.countP (fun b => !b) = 0 := Nat.le_zero.1 hcp
      rw [List.countP_eq_zero] at h0
      have hi' : i < L.size := by rw [hI.size]; exact hi
      have := h0 L[i] (by simp)
      rw [Array.getD_eq_getD_getElem?, Array.getElem?_eq_getElem hi']
      simpa using this
    refine ⟨?_, hend L φ a w hI hall⟩
    unfold Region.ready
    rw [List.filter_eq_nil_iff]
    intro i hi
    simp only [List.mem_range] at hi
    rw [getD_tf (by rw [hI.size]; exact hi), hall i hi]
    simp
  | succ fuel ih =>
    intro L φ a w hI hcp
    refine ⟨fun hr => hend L φ a w hI (hready L hI.size hr), fun i hi => ?_⟩
    unfold Region.ready at hi
    rw [List.mem_filter] at hi
    obtain ⟨hin, hib⟩ := hi
    have hio : i < ops.size := by simpa using hin
    have hiL : i < L.size := by rw [hI.size]; exact hio
    have hil : i < l.length := by omega
    rw [Array.getElem?_eq_getElem hio] at hib
    simp only [Bool.and_eq_true, Bool.not_eq_true', Option.map_some, Option.getD_some] at hib
    obtain ⟨hSi, hdeps⟩ := hib
    rw [getD_tf hiL] at hSi
    have ho : ops[i]? = some ops[i] := by simp [hio]
    have hao : l[i]? = some l[i] := by simp [hil]
    have hok := hd.reg.2 i _ _ ho hao
    have D1 : ∀ j, ((bef ops.toList []).getD i 0).testBit j = true → L.getD j false = true := by
      intro j hj
      obtain ⟨e, he, hb, hor⟩ := bef_closed ho hj
      rw [← Array.all_toList, List.all_eq_true] at hdeps
      have := hdeps e he
      rw [hb] at this
      simp only [Bool.not_true, Bool.false_or] at this
      rcases hor with rfl | hor
      · exact this
      · exact hI.closed _ _ this hor
    have D2 : ∀ j, ((bef ops.toList []).getD j 0).testBit i = true → L.getD j false = false := by
      intro j hj
      cases e : L.getD j false with
      | false => rfl
      | true => have := hI.closed j i e hj; rw [hSi] at this; cases this
    have hagree : ∀ t ∈ slotsOf ops ops[i], valAt l V (E 0) (fun k => L.getD k false) ops.size t = valAt l V (E 0) (fun _ => true) i t := by
      intro t ht
      rw [valAt_none (i := i) ops.size (by omega) (fun k h1 h2 hk => ?_)]
      · refine valAt_congr _ fun k hk hw => ?_
        obtain ⟨p, hp, hpd⟩ := wr_iff hd.reg hw
        have := hd.slots i _ t k p ho ht hp hpd (by omega)
        rw [show max k i = i by omega, show min k i = k by omega] at this
        exact D1 k this
      · obtain ⟨p, hp, hpd⟩ := wr_iff hd.reg hk
        by_cases e : k = i
        · subst e; exact hSi
        · have := hd.slots i _ t k p ho ht hp hpd e
          rw [show max k i = k by omega, show min k i = i by omega] at this
          exact D2 k this
    have hslot : ∀ t ∈ slotsOf ops ops[i], VR φ ((E i).getD t .undef) (a.tmps.getD t undef) := by
      intro t ht
      by_cases htl : t < (E 0).length
      · rw [hEv i (by omega) t htl, ← hagree t ht]
        refine hI.vals t htl fun g y hy hyl hyd hLg => ?_
        have hgi : i ≠ g := by rintro rfl; rw [hSi] at hLg; cases hLg
        have hn := hd.named g i y _ t hy hyl hyd ho ht hgi
        exact done_iff.2 fun s hs1 ha => D1 s (hn s ha)
      · have h1 : (E i).getD t .undef = .undef := by
          have := hEl i (by omega)
          simp [List.getD, List.getElem?_eq_none (by omega : (E i).length ≤ t)]
        have h2 : a.tmps.getD t undef = undef := by
          have := hI.len
          rw [Array.getD_eq_getD_getElem?, Array.getElem?_eq_none (by omega)]; rfl
        rw [h1, h2]; exact vr_undef
    have hcpt : (L.setIfInBounds i true).toList.countP (fun b => !b) ≤ fuel := by
      rw [Array.toList_setIfInBounds, List.countP_set (by simpa using hiL)]
      have hLi : L.toList[i]'(by simpa using hiL) = false := by
        rw [Array.getD_eq_getD_getElem?, Array.getElem?_eq_getElem hiL] at hSi
        simpa using hSi
      rw [hLi]
      simp only [Bool.not_false, Bool.not_true, if_true, Bool.false_eq_true, if_false]
      omega
    have hstep := (hst i _ hao).1
    unfold wpOpIn
    rw [ho]
    dsimp only
    have hwant : Region.wanted ops[i] (yielded ops a.tmps) = wanted (E i) l[i].guard := by
      refine wanted_sound (φ := φ) hok.guard fun s want hg => ?_
      have hmem : s ∈ slotsOf ops ops[i] := by
        have hg' := hok.guard
        unfold cGuard at hg'
        split at hg'
        · simp at hg'; rw [hg] at hg'; cases hg'
        · rename_i j wt eg
          split at hg'
          case h_2 => cases hg'
          rename_i d hdd
          simp at hg'
          rw [hg] at hg'
          simp at hg'
          unfold slotsOf
          rw [eg]
          simp only [hdd, hg'.1]
          simp
      have h3 := hslot s hmem
      have hlen := hEl i (by omega)
      by_cases hsl : s < (E 0).length
      · refine .inr ⟨(E i)[s]'(by omega), a.tmps[s]'(by have := hI.len; omega), by simp, by simp, ?_⟩
        have e1 : (E i).getD s .undef = (E i)[s]'(by omega) := by simp [List.getD, (by omega : s < (E i).length)]
        have e2 : a.tmps.getD s undef = a.tmps[s]'(by have := hI.len; omega) := by
          rw [Array.getD_eq_getD_getElem?, Array.getElem?_eq_getElem (by have := hI.len; omega)]; rfl
        rw [e1, e2] at h3
        exact h3
      · exact .inl ⟨List.getElem?_eq_none (by omega), Array.getElem?_eq_none (by have := hI.len; omega)⟩
    rw [hwant]
    obtain ⟨h, hcur, hrel⟩ := hI.rel
    -- the operands, at the slots that it names
    have hnames := hd.names i _ _ ho hao
    let ρ : Operand → Value := fun x => match x with
      | .tmp t => if l[i].names.contains t then a.tmps.getD t undef else undef
      | x => a.eval x
    have hop : Opds φ (mask l[i].names (E i)) ρ := by
      intro x y hxy
      cases x with
      | tmp t =>
        simp [cOpd] at hxy; subst hxy
        show VR φ ((mask l[i].names (E i)).getD t .undef) (if l[i].names.contains t then a.tmps.getD t undef else undef)
        by_cases hc : l[i].names.contains t = true
        · rw [mask_get hc, if_pos hc]
          refine hslot t ?_
          unfold slotsOf
          rw [hnames] at hc
          simp only [List.mem_append]
          exact .inl (.inr (by simpa using hc))
        · have hc : l[i].names.contains t = false := by simpa using hc
          rw [mask_out hc, if_neg (by rw [hc]; simp)]; exact vr_undef
      | const v =>
        obtain ⟨b, hb, rfl⟩ := Option.map_eq_some_iff.1 hxy
        exact ofBase_vr hb
      | func f =>
        simp [cOpd] at hxy; subst hxy
        simp only [AOpd.ev]
        show VR φ _ (a.eval (.func f))
        simp only [Act.eval, VR]
        exact ⟨_, _, rfl, VRs.nil, VRs.nil⟩
      | global g => cases hxy
    have hρ : cOp P ifs ops[i] = some l[i].op → execOp a.eval ops[i] = execOp ρ ops[i] := by
      intro hcop
      refine execOp_congr _ (fun css b hsel => ?_) fun x hx => ?_
      · have := hcop
        unfold cOp at this
        rw [hsel] at this
        simp at this
      · cases x with
        | tmp t =>
          have hc : l[i].names.contains t = true := by
            rw [hnames]
            simp only [tmpsOf, List.contains_iff_mem, List.mem_filterMap]
            exact ⟨.tmp t, by simpa using hx, rfl⟩
          show a.tmps.getD t undef = (if l[i].names.contains t then a.tmps.getD t undef else undef)
          rw [if_pos hc]
        | _ => rfl
    by_cases hlate : l[i].late = true
    · -- a new block that stands apart
      obtain ⟨ha1, ha2⟩ := hd.late i _ hao hlate
      have hw : wanted (E i) l[i].guard = true := by rw [ha2]; rfl
      rw [if_pos hw]
      have hso := isAlloc_strong ha1
      obtain ⟨_, _, s3⟩ := hstep.2.2 hw
      obtain ⟨hA, hB, c1, c2, c3⟩ := s3 (kind_strong.1 hso)
      have hcop := opc' hok.op ha1
      obtain ⟨f, blk, k1, k2, k3, k4, k5⟩ := late_run hcop hop ha1 c3
      obtain ⟨obj, N, val, m1, m2⟩ := k5 w
      obtain ⟨φ'', hI'⟩ := DInv.nextLate hd hC0 hst hI hio ho hao hSi D1 D2 hlate hwS k1 m2
      refine wpIn_of hcop ?_
      rw [hρ hcop, m1, Oper.uponIn_value]
      exact ih _ φ'' _ _ hI' hcpt
    have hlate : l[i].late = false := by simpa using hlate
    have hli : lt l i = false := by rw [lt_of hao]; exact hlate
    have hC : isStrong l[i].op = true → hidx l (fun k => L.getD k false) = C i := by
      intro hso
      have hsi : sg l i = true := by rw [sg_of hao]; exact hso
      rw [hCc i (by omega)]
      unfold hidx
      cases hAi : isA l i with
      | true =>
        have hag : ag l i = true := by simp [ag, hsi, hAi]
        rw [ag_unlisted_not_done hd hio ho hao hSi D1 D2 hag, if_neg (by simp)]
        exact cntA hd hio ho hao hSi D1 D2 hsi hli hAi
      | false =>
        obtain ⟨b1, b2⟩ := cntB hd hio ho hao hSi D1 D2 hsi hli hAi
        rw [b1, if_pos rfl]; exact b2
    by_cases hw : wanted (E i) l[i].guard = true
    · rw [if_pos hw]
      obtain ⟨s1, s2, s3⟩ := hstep.2.2 hw
      -- what the evaluator gives here
      have hev : ∃ h1, evalOp mt call (mask l[i].names (E i)) h l[i].op = some (V i, h1) ∧ (if isStrong l[i].op then hs[C i + 1]? = some h1 else hs[hidx l (fun k => L.getD k false)]? = some h1) := by
        unfold evalOp
        cases hk : l[i].op.kind with
        | pure =>
          refine ⟨h, by simp [s1 hk], ?_⟩
          rw [if_neg (by simp [isStrong, hk])]; exact hcur
        | weak =>
          have hmem := s2 hk
          have hok' := List.all_eq_true.1 hchk _ hmem
          unfold Chk.ok at hok'
          dsimp only at hok'
          rw [List.all_eq_true] at hok'
          have hcntle : (doneB l (fun k => L.getD k false) = true → hidx l (fun k => L.getD k false) = cntS (l.map (·.op)) 0 (fun k => L.getD k false)) ∧ (doneB l (fun k => L.getD k false) = false → hidx l (fun k => L.getD k false) = cntS (l.map (·.op)) 0 (fun k => L.getD k false && isA l k)) :=
            ⟨fun e => by unfold hidx; rw [e]; rfl, fun e => by unfold hidx; rw [e]; rfl⟩
          have hlo : l[i].lo ≤ hidx l (fun k => L.getD k false) := by
            rw [hd.lo i _ hao]
            cases hdn : doneB l (fun k => L.getD k false) with
            | true =>
              rw [hcntle.1 hdn]
              exact cnt_mono fun k hk1 hsk hb => D1 k (by simp only [Bool.and_eq_true] at hb; exact hb.1)
            | false =>
              rw [hcntle.2 hdn]
              refine cnt_mono fun k hk1 hsk hb => ?_
              simp only [Bool.and_eq_true, Bool.not_eq_true'] at hb
              have hLk := D1 k hb.1
              rw [hLk, Bool.true_and]
              cases eA : isA l k with
              | true => rfl
              | false =>
                exfalso
                have : doneB l (fun k => L.getD k false) = true := by
                  refine done_iff.2 fun s hsl ha => ?_
                  have hG : ∀ g, lt l g = true → g < k := by
                    intro g hg
                    have h1 : ¬ k < g := fun h => by
                      have : isA l k = true := isA_iff.2 ⟨hb.2, g, lt_lt hg, hg, h⟩
                      rw [eA] at this; cases this
                    have h2 : g ≠ k := by rintro rfl; rw [hb.2] at hg; cases hg
                    omega
                  simp only [ag, Bool.and_eq_true, Bool.or_eq_true] at ha
                  refine hI.closed k s hLk ?_
                  rcases ha.2 with h | h
                  · exact hd.aft k s hsk hb.2 h (hG s h)
                  · obtain ⟨hls, g, _, hg, hsg⟩ := isA_iff.1 h
                    exact hd.chain s k ha.1 hsk hls hb.2 (by have := hG g hg; omega)
                rw [hdn] at this; cases this
          have hhi : hidx l (fun k => L.getD k false) ≤ l[i].hi := by
            rw [hd.hi i _ hao]
            have key : ∀ k, L.getD k false = true → (!((bef ops.toList []).getD k 0).testBit i) = true := by
              intro k hb
              cases e : ((bef ops.toList []).getD k 0).testBit i with
              | false => rfl
              | true => rw [D2 k e] at hb; cases hb
            cases hdn : doneB l (fun k => L.getD k false) with
            | true => rw [hcntle.1 hdn]; exact cnt_mono fun k _ _ hb => key k hb
            | false => rw [hcntle.2 hdn]; exact cnt_mono fun k _ _ hb => key k (by simp only [Bool.and_eq_true] at hb; exact hb.1)
          have hsub : ∀ c : Nat, l[i].lo ≤ c → c ≤ l[i].hi → hs[c]? = some h → (match evalWeak (mask l[i].names (E i)) h l[i].op with | some v => AV.same v (V i) | none => false) = true := by
            intro c h1 h2 h3
            have := hok' (c - l[i].lo) (List.mem_range.2 (by omega))
            simp only [show l[i].lo + (c - l[i].lo) = c by omega, h3] at this
            exact this
          have := hsub _ hlo hhi hcur
          split at this
          · rename_i u hu
            have := AV.same_eq _ _ this
            subst this
            refine ⟨h, by simp [hu], ?_⟩
            rw [if_neg (by simp [isStrong, hk])]; exact hcur
          · cases this
        | strong =>
          obtain ⟨hA, hB, c1, c2, c3⟩ := s3 hk
          have hso : isStrong l[i].op = true := kind_strong.2 hk
          rw [hC hso, c1] at hcur
          simp at hcur; subst hcur
          exact ⟨hB, by simpa using c3, by rw [if_pos hso]; exact c2⟩
      obtain ⟨h1, hev1, hev2⟩ := hev
      have hcop := opc hok.op hev1
      refine op_wp hcs hmt hrel hcop hop (hρ hcop) hev1 fun φ' w' v' k1 k2 k3 => ?_
      obtain ⟨φ'', hI'⟩ := DInv.next hd hC0 hst hI hio ho hao hSi D1 D2 hlate k1 k2 k3 hev2
      exact ih _ φ'' _ _ hI' hcpt
    · rw [if_neg hw]
      have hw : wanted (E i) l[i].guard = false := by simpa using hw
      obtain ⟨s1, s2⟩ := hstep.2.1 hw
      obtain ⟨φ'', hI'⟩ := DInv.next (h1 := h) hd hC0 hst hI hio ho hao hSi D1 D2 hlate (by rw [s1]; exact vr_undef) hrel (Stp.refl _ _) (by
        split
        · rename_i hso
          obtain ⟨hA, c1, c2⟩ := s2 hso
          rw [hC hso, c1] at hcur
          simp at hcur; subst hcur
          exact c2
        · exact hcur)
      exact ⟨about_any _ _ _, ih _ φ'' _ _ hI' hcpt⟩
end
end Go.Proofs.YtjihmonajekomaaGreatDoor.Ax
