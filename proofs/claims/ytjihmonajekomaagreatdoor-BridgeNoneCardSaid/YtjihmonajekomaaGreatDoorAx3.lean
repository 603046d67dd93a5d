/- How the evaluator's values and heap stand to the model's values and memory; what new blocks, stores and forgetting do to it. Conditions: as each theorem states. -/
import Derived.Test.YtjihmonajekomaaGreatDoorAx2
import Derived.WalkKit
namespace Go.Proofs.YtjihmonajekomaaGreatDoor.Ax
open Go Go.RowKit

/-- Where a block lies: the model's block, the place of its first cell there, how many cells that block has. -/
abbrev Emb := Nat → Option (Nat × Nat × Nat)

def Ext (φ φ' : Emb) : Prop := ∀ i x, φ i = some x → φ' i = some x
theorem Ext.refl (φ : Emb) : Ext φ φ := fun _ _ h => h
theorem Ext.trans {a b c : Emb} (h : Ext a b) (k : Ext b c) : Ext a c := fun i x hx => k i x (h i x hx)

mutual
def VR (φ : Emb) : AV → Value → Prop
  | .bool b, v => v = .bool b
  | .int k n, v => v = .int k n
  | .str s, v => ∃ t, v = .string t ∧ t.data.toList.map UInt8.toNat = s
  | .ptr none, v => v = .pointer none
  | .ptr (some a), v => ∃ b c N, φ a.1 = some (b, c, N) ∧ v = .pointer (some ⟨b, c + a.2, none⟩)
  | .slice none n c _, v => n = 0 ∧ c = 0 ∧ v = .slice none 0 0
  | .slice (some a) n c es, v => ∃ b co N cc p, φ a.1 = some (b, co, N) ∧ v = .slice (some p) n cc ∧ n ≤ c ∧ c ≤ cc ∧ (cc = 0 ∨ (p = ⟨b, co + a.2, none⟩ ∧ co + a.2 + cc * es ≤ N))
  | .map none, v => v = .map none
  | .map (some i), v => ∃ b N, φ i = some (b, 0, N) ∧ v = .map (some b)
  | .func (.yield l) fs cs, v => ∃ b N fs' cs', φ l = some (b, 0, N) ∧ v = .func (.yield b) fs' cs' ∧ VRs φ fs fs'.toList ∧ VRs φ cs cs'.toList
  | .func fn fs cs, v => ∃ fs' cs', v = .func fn fs' cs' ∧ VRs φ fs fs'.toList ∧ VRs φ cs cs'.toList
  | .nilFunc, v => v = .nilFunc
  | .iface t a, v => ∃ u, v = .iface t u ∧ VR φ a u
  | .nilIface, v => v = .nilIface
  | .agg cs, v => ∃ cs', v = .agg cs' ∧ VRs φ cs cs'.toList
  | .tuple vs, v => ∃ vs', v = .tuple vs' ∧ VRs φ vs vs'.toList
def VRs (φ : Emb) : List AV → List Value → Prop
  | [], l => l = []
  | a :: as, l => ∃ v r, l = v :: r ∧ VR φ a v ∧ VRs φ as r
end

mutual
theorem VR.ext {φ φ' : Emb} (h : Ext φ φ') : ∀ (a : AV) (v : Value), VR φ a v → VR φ' a v
  | .bool _, _, hv => by simpa [VR] using hv
  | .int _ _, _, hv => by simpa [VR] using hv
  | .str _, _, hv => by simpa [VR] using hv
  | .ptr none, _, hv => by simpa [VR] using hv
  | .ptr (some a), v, hv => by
    simp only [VR] at hv ⊢
    obtain ⟨b, c, N, h1, h2⟩ := hv
    exact ⟨b, c, N, h _ _ h1, h2⟩
  | .slice none _ _ _, _, hv => by simpa [VR] using hv
  | .slice (some a) n c es, v, hv => by
    simp only [VR] at hv ⊢
    obtain ⟨b, co, N, cc, p, h1, h2⟩ := hv
    exact ⟨b, co, N, cc, p, h _ _ h1, h2⟩
  | .map none, _, hv => by simpa [VR] using hv
  | .map (some i), v, hv => by
    simp only [VR] at hv ⊢
    obtain ⟨b, N, h1, h2⟩ := hv
    exact ⟨b, N, h _ _ h1, h2⟩
  | .func fn fs cs, v, hv => by
    cases fn with
    | yield l =>
      simp only [VR] at hv ⊢
      obtain ⟨b, N, fs', cs', h1, h2, h3, h4⟩ := hv
      exact ⟨b, N, fs', cs', h _ _ h1, h2, VRs.ext h fs _ h3, VRs.ext h cs _ h4⟩
    | _ =>
      simp only [VR] at hv ⊢
      obtain ⟨fs', cs', h2, h3, h4⟩ := hv
      exact ⟨fs', cs', h2, VRs.ext h fs _ h3, VRs.ext h cs _ h4⟩
  | .nilFunc, _, hv => by simpa [VR] using hv
  | .iface t a, v, hv => by
    simp only [VR] at hv ⊢
    obtain ⟨u, h1, h2⟩ := hv
    exact ⟨u, h1, VR.ext h a u h2⟩
  | .nilIface, _, hv => by simpa [VR] using hv
  | .agg cs, v, hv => by
    simp only [VR] at hv ⊢
    obtain ⟨cs', h1, h2⟩ := hv
    exact ⟨cs', h1, VRs.ext h cs _ h2⟩
  | .tuple cs, v, hv => by
    simp only [VR] at hv ⊢
    obtain ⟨cs', h1, h2⟩ := hv
    exact ⟨cs', h1, VRs.ext h cs _ h2⟩
theorem VRs.ext {φ φ' : Emb} (h : Ext φ φ') : ∀ (as : List AV) (l : List Value), VRs φ as l → VRs φ' as l
  | [], _, hv => by simpa [VRs] using hv
  | a :: as, l, hv => by
    simp only [VRs] at hv ⊢
    obtain ⟨v, r, h1, h2, h3⟩ := hv
    exact ⟨v, r, h1, VR.ext h a v h2, VRs.ext h as r h3⟩
end

section lists
variable {φ : Emb}

theorem VRs.iff {as : List AV} : ∀ {l : List Value}, VRs φ as l ↔ as.length = l.length ∧ ∀ (i : Nat) (a : AV) (v : Value), as[i]? = some a → l[i]? = some v → VR φ a v := by
  induction as with
  | nil => intro l; cases l <;> simp [VRs]
  | cons a as ih =>
    intro l
    cases l with
    | nil => simp [VRs]
    | cons v r =>
      simp only [VRs, List.cons.injEq, List.length_cons, Nat.add_right_cancel_iff]
      constructor
      · rintro ⟨v', r', ⟨rfl, rfl⟩, h1, h2⟩
        obtain ⟨hl, hi⟩ := ih.1 h2
        refine ⟨hl, fun i x y hx hy => ?_⟩
        cases i with
        | zero => simp at hx hy; subst hx; subst hy; exact h1
        | succ i => exact hi i x y (by simpa using hx) (by simpa using hy)
      · rintro ⟨hl, hi⟩
        exact ⟨v, r, ⟨rfl, rfl⟩, hi 0 a v rfl rfl, ih.2 ⟨hl, fun i x y hx hy => hi (i + 1) x y (by simpa using hx) (by simpa using hy)⟩⟩

theorem VRs.len {as : List AV} {l : List Value} (h : VRs φ as l) : as.length = l.length := (VRs.iff.1 h).1

theorem VRs.get {as : List AV} {l : List Value} (h : VRs φ as l) {i : Nat} {a : AV} (ha : as[i]? = some a) : ∃ v, l[i]? = some v ∧ VR φ a v := by
  have hl := h.len
  have hi : i < as.length := (List.getElem?_eq_some_iff.1 ha).1
  exact ⟨l[i]'(by omega), List.getElem?_eq_getElem (by omega), (VRs.iff.1 h).2 i a _ ha (List.getElem?_eq_getElem (by omega))⟩

theorem VRs.append {as bs : List AV} {l r : List Value} (h : VRs φ as l) (k : VRs φ bs r) : VRs φ (as ++ bs) (l ++ r) := by
  induction as generalizing l with
  | nil => simp only [VRs] at h; subst h; exact k
  | cons a as ih =>
    simp only [VRs] at h
    obtain ⟨v, r', rfl, h1, h2⟩ := h
    simp only [List.cons_append, VRs]
    exact ⟨v, _, rfl, h1, ih h2⟩

theorem VRs.take {as : List AV} {l : List Value} (h : VRs φ as l) (n : Nat) : VRs φ (as.take n) (l.take n) := by
  obtain ⟨hl, hi⟩ := VRs.iff.1 h
  refine VRs.iff.2 ⟨by simp [hl], fun i a v ha hv => ?_⟩
  rw [List.getElem?_take] at ha hv
  split at ha <;> simp_all
  exact hi i a v ha hv

theorem VRs.drop {as : List AV} {l : List Value} (h : VRs φ as l) (n : Nat) : VRs φ (as.drop n) (l.drop n) := by
  obtain ⟨hl, hi⟩ := VRs.iff.1 h
  refine VRs.iff.2 ⟨by simp [hl], fun i a v ha hv => ?_⟩
  rw [List.getElem?_drop] at ha hv
  exact hi _ a v ha hv

theorem VRs.cons {a : AV} {as : List AV} {v : Value} {l : List Value} (h : VR φ a v) (k : VRs φ as l) : VRs φ (a :: as) (v :: l) := by
  simp only [VRs]; exact ⟨v, l, rfl, h, k⟩

theorem VRs.nil : VRs φ [] [] := by simp [VRs]

theorem VRs.set {as : List AV} {l : List Value} (h : VRs φ as l) (i : Nat) {a : AV} {v : Value} (hv : VR φ a v) : VRs φ (as.set i a) (l.set i v) := by
  obtain ⟨hl, hi⟩ := VRs.iff.1 h
  refine VRs.iff.2 ⟨by simp [hl], fun j x y hx hy => ?_⟩
  rw [List.getElem?_set] at hx hy
  split at hx
  · rename_i e
    subst e
    simp only [if_true] at hy
    split at hx <;> split at hy <;> simp_all
  · rename_i e
    rw [if_neg e] at hy
    exact hi j x y hx hy

theorem VRs.replicate {a : AV} {v : Value} (h : VR φ a v) : ∀ n, VRs φ (List.replicate n a) (List.replicate n v)
  | 0 => VRs.nil
  | n + 1 => VRs.cons h (VRs.replicate h n)

theorem VR.undef : VR φ .undef Go.undef := by simp [AV.undef, VR, VRs, Go.undef]

/-- What has no parts has none in the model, and one cell. -/
theorem VR.flat_cells {a : AV} {v : Value} (hf : flat a = true) (h : VR φ a v) : (∀ cs, v ≠ .agg cs) ∧ (∀ cs, v ≠ .tuple cs) ∧ v.cells = #[v] := by
  cases a with
  | ptr x => cases x <;> simp only [VR] at h <;> first | (subst h; simp [Value.cells]) | (obtain ⟨_, _, _, _, rfl⟩ := h; simp [Value.cells])
  | slice x n c e => cases x <;> simp only [VR] at h <;> first | (obtain ⟨_, _, rfl⟩ := h; simp [Value.cells]) | (obtain ⟨_, _, _, _, _, _, rfl, _⟩ := h; simp [Value.cells])
  | map x => cases x <;> simp only [VR] at h <;> first | (subst h; simp [Value.cells]) | (obtain ⟨_, _, _, rfl⟩ := h; simp [Value.cells])
  | func fn fs cs => cases fn <;> simp only [VR] at h <;> first | (obtain ⟨_, _, rfl, _, _⟩ := h; simp [Value.cells]) | (obtain ⟨_, _, _, _, _, rfl, _, _⟩ := h; simp [Value.cells])
  | agg cs => simp [flat] at hf
  | tuple cs => simp [flat] at hf
  | str s => simp only [VR] at h; obtain ⟨_, rfl, _⟩ := h; simp [Value.cells]
  | iface t x => simp only [VR] at h; obtain ⟨_, rfl, _⟩ := h; simp [Value.cells]
  | _ => simp only [VR] at h; subst h; simp [Value.cells]

theorem VR.cells {a : AV} {v : Value} (h : VR φ a v) : VRs φ a.cells v.cells.toList := by
  cases a with
  | agg cs => simp only [VR] at h; obtain ⟨cs', rfl, h⟩ := h; exact h
  | tuple cs => simp only [VR] at h; obtain ⟨cs', rfl, h⟩ := h; exact VRs.cons (by simp only [VR]; exact ⟨_, rfl, h⟩) VRs.nil
  | _ =>
    rw [(VR.flat_cells rfl h).2.2]
    exact VRs.cons h VRs.nil
end lists

/-! ### The heap -/
theorem AH.get_push (h : AH) (b : ABlk) (i : Nat) : (h.push b).get i = if i = h.next then b else h.get i := by
  unfold AH.get AH.push
  by_cases e : i = h.next
  · subst e; simp
  · by_cases hi : i < h.next
    · rw [if_pos (show i < h.next + 1 by omega), if_neg e, if_pos hi]
      have : h.next + 1 - 1 - i = (h.next - 1 - i) + 1 := by omega
      rw [this, List.getD_cons_succ]
    · rw [if_neg (show ¬ i < h.next + 1 by omega), if_neg e, if_neg hi]

theorem AH.next_push (h : AH) (b : ABlk) : (h.push b).next = h.next + 1 := rfl
theorem AH.next_set (h : AH) (i : Nat) (b : ABlk) : (h.set i b).next = h.next := rfl
theorem AH.next_forget (h : AH) (a b c d : Nat) : (h.forget a b c d).next = h.next := rfl

theorem AH.get_lt {h : AH} {i : Nat} (hi : h.get i ≠ .dead) : i < h.next ∧ h.next - 1 - i < h.blks.length := by
  unfold AH.get at hi
  split at hi
  · rename_i hlt
    refine ⟨hlt, ?_⟩
    rcases Nat.lt_or_ge (h.next - 1 - i) h.blks.length with h1 | h1
    · exact h1
    · rw [List.getD_eq_getElem?_getD, List.getElem?_eq_none h1] at hi; simp at hi
  · simp at hi

theorem AH.get_set_same {h : AH} {i : Nat} (hi : h.get i ≠ .dead) (b : ABlk) : (h.set i b).get i = b := by
  obtain ⟨h1, h2⟩ := AH.get_lt hi
  simp [AH.get, AH.set, h1, h2]

theorem AH.get_set_other {h : AH} {i j : Nat} (hij : i ≠ j) (b : ABlk) : (h.set i b).get j = h.get j := by
  unfold AH.get AH.set
  by_cases h1 : i < h.next
  · by_cases h2 : j < h.next
    · simp only [h1, h2, if_true]
      rw [List.getD_eq_getElem?_getD, List.getD_eq_getElem?_getD, List.getElem?_set_ne (by omega)]
    · simp [h2]
  · simp [h1]

/-- A block with some of its cells forgotten. -/
inductive Lost : ABlk → ABlk → Prop where
  | same (b : ABlk) : Lost b b
  | cells (cs : List (Option AV)) (lo n : Nat) (e : TypeId) (f base : Nat) (ro pl : Bool) : Lost (.cells cs e f base true ro pl) (.cells (forget lo n base cs) e f base true ro pl)

theorem forgetIn_get (fam lo n skip : Nat) : ∀ (c : Nat) (l : List ABlk) (q : Nat), q < c →
    (forgetIn fam lo n skip c l).getD q .dead =
      (match l.getD q .dead with
       | .cells cs e f base sh ro pl => if c - 1 - q ≠ skip ∧ f = fam ∧ sh = true then .cells (forget lo n base cs) e f base sh ro pl else .cells cs e f base sh ro pl
       | b => b)
  | c, [], q, _ => by simp [forgetIn]
  | 0, _ :: _, q, h => by omega
  | c + 1, b :: r, 0, _ => by
    simp only [forgetIn, List.getD_cons_zero]
    cases b <;> simp
  | c + 1, b :: r, q + 1, h => by
    simp only [forgetIn, List.getD_cons_succ]
    rw [forgetIn_get fam lo n skip c r q (by omega)]
    have : c + 1 - 1 - (q + 1) = c - 1 - q := by omega
    rw [this]

theorem AH.get_forget (h : AH) (fam lo n skip i : Nat) : (h.forget fam lo n skip).get i =
      (match h.get i with
       | .cells cs e f base sh ro pl => if i ≠ skip ∧ f = fam ∧ sh = true then .cells (Ax.forget lo n base cs) e f base sh ro pl else .cells cs e f base sh ro pl
       | b => b) := by
  unfold AH.get AH.forget
  by_cases hi : i < h.next
  · simp only [hi, if_true]
    rw [forgetIn_get fam lo n skip h.next h.blks _ (by omega)]
    have : h.next - 1 - (h.next - 1 - i) = i := by omega
    rw [this]
  · simp [hi]

theorem forget_length (lo n : Nat) : ∀ (p : Nat) (cs : List (Option AV)), (forget lo n p cs).length = cs.length
  | _, [] => rfl
  | p, _ :: r => by simp [forget, forget_length lo n (p + 1) r]

theorem forget_get (lo n : Nat) : ∀ (p : Nat) (cs : List (Option AV)) (j : Nat) (v : AV), (forget lo n p cs)[j]? = some (some v) → cs[j]? = some (some v) ∧ ¬ (lo ≤ p + j ∧ p + j < lo + n)
  | _, [], _, _, h => by simp [forget] at h
  | p, c :: r, 0, v, h => by
    simp only [forget, List.getElem?_cons_zero, Option.some.injEq] at h
    split at h
    · simp at h
    · subst h; simp_all
  | p, c :: r, j + 1, v, h => by
    simp only [forget, List.getElem?_cons_succ] at h
    obtain ⟨h1, h2⟩ := forget_get lo n (p + 1) r j v h
    exact ⟨by simpa using h1, by omega⟩

theorem takeSome_spec : ∀ (n : Nat) (cs : List (Option AV)) (vs : List AV), takeSome n cs = some vs → vs.length = n ∧ ∀ (j : Nat) (v : AV), vs[j]? = some v → cs[j]? = some (some v)
  | 0, _, vs, h => by simp [takeSome] at h; subst h; simp
  | n + 1, [], _, h => by simp [takeSome] at h
  | n + 1, none :: _, _, h => by simp [takeSome] at h
  | n + 1, some a :: r, vs, h => by
    simp only [takeSome, Option.map_eq_some_iff] at h
    obtain ⟨vs', h1, rfl⟩ := h
    obtain ⟨h2, h3⟩ := takeSome_spec n r vs' h1
    refine ⟨by simp [h2], fun j v hj => ?_⟩
    cases j with
    | zero => simp at hj; subst hj; simp
    | succ j => simpa using h3 j v (by simpa using hj)

theorem putAt_spec : ∀ (cs : List (Option AV)) (o : Nat) (vs : List AV) (cs' : List (Option AV)), putAt cs o vs = some cs' →
    cs'.length = cs.length ∧ (vs ≠ [] → o + vs.length ≤ cs.length) ∧ ∀ j : Nat, cs'[j]? = if o ≤ j ∧ j < o + vs.length then (vs[j - o]?).map some else cs[j]?
  | cs, o, [], cs', h => by
    have e : cs' = cs := by cases cs <;> simp [putAt] at h <;> first | exact h.symm | exact h
    subst e
    refine ⟨rfl, by simp, fun j => ?_⟩
    rw [if_neg (by simp only [List.length_nil]; omega)]
  | [], o, v :: vs, cs', h => by simp [putAt] at h
  | c :: r, 0, v :: vs, cs', h => by
    simp only [putAt, Option.map_eq_some_iff] at h
    obtain ⟨r', h1, rfl⟩ := h
    obtain ⟨h2, h3, h4⟩ := putAt_spec r 0 vs r' h1
    refine ⟨by simp [h2], fun _ => ?_, fun j => ?_⟩
    · by_cases e : vs = []
      · subst e; simp
      · have := h3 e; simp at this ⊢; omega
    · cases j with
      | zero => simp
      | succ j =>
        simp only [List.getElem?_cons_succ, List.length_cons]
        rw [h4 j]
        by_cases hj : j < vs.length
        · rw [if_pos ⟨by omega, by omega⟩, if_pos ⟨by omega, by omega⟩]
          simp
        · rw [if_neg (by omega), if_neg (by omega)]
  | c :: r, o + 1, v :: vs, cs', h => by
    simp only [putAt, Option.map_eq_some_iff] at h
    obtain ⟨r', h1, rfl⟩ := h
    obtain ⟨h2, h3, h4⟩ := putAt_spec r o (v :: vs) r' h1
    refine ⟨by simp [h2], fun _ => ?_, fun j => ?_⟩
    · have := h3 (by simp); simp at this ⊢; omega
    · cases j with
      | zero => simp
      | succ j =>
        simp only [List.getElem?_cons_succ]
        rw [h4 j]
        by_cases hj : o ≤ j ∧ j < o + (v :: vs).length
        · rw [if_pos hj, if_pos (by omega)]
          have : j + 1 - (o + 1) = j - o := by omega
          rw [this]
        · rw [if_neg hj, if_neg (by omega)]

end Go.Proofs.YtjihmonajekomaaGreatDoor.Ax
