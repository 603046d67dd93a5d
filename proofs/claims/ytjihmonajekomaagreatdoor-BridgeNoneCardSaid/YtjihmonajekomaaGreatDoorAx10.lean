/- Every operation that only reads memory: what the evaluator gives is what the model gives. Conditions: as each theorem states. -/
import Derived.Test.YtjihmonajekomaaGreatDoorAx9
import Derived.Laws.StructEq
import Derived.Laws.BytesString
import Derived.LaidEqlPtr
import Derived.WideKeyRuns
namespace Go.Proofs.YtjihmonajekomaaGreatDoor.Ax
open Go Go.RowKit
set_option linter.unusedVariables false

section
variable {P : Program} {ifs : List TypeId} {φ : Emb} {w0 w : World} {h : AH}

theorem Rel.getObj (hr : Rel P ifs φ w0 h w) {i b N : Nat} (hi : φ i = some (b, 0, N)) {o : Obj} (ho : w.heap[b]? = some o) (hc : ∀ C e fr, o ≠ .cells C e fr) : (getObj b).run P w = .ok o w := by
  simp only [Go.getObj, Sem.run, ho]

theorem fieldsOf_eq {t : TypeId} {fs : Array Field} (ht : P.underlying t = some (.struct fs)) : P.fieldsOf t = fs := by simp [Program.fieldsOf, ht]

/-- Two addresses are compared. -/
theorem samePtr_sound (hr : Rel P ifs φ w0 h w) {a b : Nat × Nat} {r : Bool} (hs : h.samePtr a b = some r) {ba ca Na bb cb Nb : Nat} (ha : φ a.1 = some (ba, ca, Na)) (hb : φ b.1 = some (bb, cb, Nb)) :
    (sameAddr ⟨ba, ca + a.2, none⟩ ⟨bb, cb + b.2, none⟩).run P w = .ok r w := by
  unfold AH.samePtr at hs
  split at hs
  · rename_i e
    rw [← e, ha] at hb
    simp at hb; obtain ⟨rfl, rfl, rfl⟩ := hb
    simp at hs; subst hs
    have : ((⟨ba, ca + a.2, none⟩ : Addr) == ⟨ba, ca + b.2, none⟩) = (a.2 == b.2) := by
      rw [Bool.eq_iff_iff, beq_iff_eq, beq_iff_eq]; simp
    simp [sameAddr, this]
  · rename_i hne
    split at hs
    · rename_i cs e f bs sh ro pl cs' e' f' bs' sh' ro' pl' g1 g2
      split at hs
      case isFalse => cases hs
      rename_i hcond
      simp at hs; subst hs
      simp only [Bool.and_eq_true, Bool.not_eq_true'] at hcond
      obtain ⟨⟨⟨⟨rfl, rfl⟩, rfl⟩, rfl⟩, hsh⟩ := hcond
      obtain ⟨o1, k1, k2⟩ := hr.blk _ _ _ _ ha
      obtain ⟨o2, l1, l2⟩ := hr.blk _ _ _ _ hb
      rw [g1] at k2; rw [g2] at l2
      obtain ⟨C1, fr1, rfl, _, _, _, hp1, _⟩ := k2
      obtain ⟨C2, fr2, rfl, _, _, _, hp2, _⟩ := l2
      obtain rfl := (hp1 rfl).1
      obtain rfl := (hp2 rfl).1
      have hbn : ba ≠ bb := by
        rintro rfl
        have := hr.ni _ _ _ _ _ _ _ hne ha hb
        rw [g1, g2] at this
        simp only [NI] at this
        rcases this with ⟨h1, _⟩ | ⟨_, _, h3, h4, _⟩
        · cases h1
        · simp [h3, h4] at hsh
      exact run_sameAddr_other w (fun e => hbn (by injection e)) k1 l1
    · cases hs

theorem eqBool_sound {t : TypeId} (hu : P.underlying t = some .bool) {x y : AV} {x' y' : Value} {r : Bool} (hx : VR φ x x') (hy : VR φ y y') (hq : eqBool x y = some r) (d : Nat) : (Op.equalIn (d + 1) t x' y').run P w = .ok r w := by
  unfold eqBool at hq
  split at hq <;> simp at hq
  subst hq
  rw [vr_bool hx, vr_bool hy]
  exact run_equalIn_bool' w d t _ _ hu

theorem eqInt_sound {t : TypeId} {kk : IntKind} (hu : P.underlying t = some (.int kk)) {x y : AV} {x' y' : Value} {r : Bool} (hx : VR φ x x') (hy : VR φ y y') (hq : eqInt x y = some r) (d : Nat) : (Op.equalIn (d + 1) t x' y').run P w = .ok r w := by
  unfold eqInt at hq
  split at hq
  · split at hq <;> simp at hq
    rename_i hk; subst hk; subst hq
    rw [vr_int hx, vr_int hy]
    exact run_equalIn_int w d t _ kk _ _ hu
  · cases hq

theorem eqStr_sound {t : TypeId} (hu : P.underlying t = some .string) {x y : AV} {x' y' : Value} {r : Bool} (hx : VR φ x x') (hy : VR φ y y') (hq : eqStr x y = some r) (d : Nat) : (Op.equalIn (d + 1) t x' y').run P w = .ok r w := by
  unfold eqStr at hq
  split at hq
  · simp only [Option.some.injEq] at hq
    subst hq
    obtain ⟨t1, rfl, rfl⟩ := vr_str hx
    obtain ⟨t2, rfl, rfl⟩ := vr_str hy
    rw [run_equalIn_string w d t t1 t2 hu, byteArray_toList, byteArray_toList, bytes_beq]
  · cases hq

theorem eqPtr_sound (hr : Rel P ifs φ w0 h w) {t e : TypeId} {sz : Nat} (hu : P.underlying t = some (.pointer e)) (hsz : szOf P e = some (sz + 1)) {x y : AV} {x' y' : Value} {r : Bool} (hx : VR φ x x') (hy : VR φ y y') (hq : eqPtr h x y = some r) (d : Nat) :
    (Op.equalIn (d + 1) t x' y').run P w = .ok r w := by
  unfold eqPtr at hq
  split at hq
  · split at hq
    · rename_i b _ _
      have e1 : x' = .pointer none := by simpa [VR] using hx
      subst e1
      simp at hq; subst hq
      cases b with
      | none =>
        have e2 : y' = .pointer none := by simpa [VR] using hy
        subst e2
        simp [Op.equalIn, run_und w hu]
      | some b =>
        obtain ⟨_, _, _, _, rfl⟩ := vr_ptr hy
        simp [Op.equalIn, run_und w hu]
    · obtain ⟨_, _, _, _, rfl⟩ := vr_ptr hx
      have e2 : y' = .pointer none := by simpa [VR] using hy
      subst e2
      simp at hq; subst hq
      simp [Op.equalIn, run_und w hu]
    · obtain ⟨ba, ca, Na, ha, rfl⟩ := vr_ptr hx
      obtain ⟨bb, cb, Nb, hb, rfl⟩ := vr_ptr hy
      have := samePtr_sound hr hq ha hb
      simp [Op.equalIn, run_und w hu, run_size w hsz, this]
  · cases hq

theorem eqSlice_sound {t e : TypeId} (hu : P.underlying t = some (.slice e)) {x y : AV} {x' y' : Value} {r : Bool} (hx : VR φ x x') (hy : VR φ y y') (hq : eqSlice x y = some r) (d : Nat) : (Op.equalIn (d + 1) t x' y').run P w = .ok r w := by
  unfold eqSlice at hq
  split at hq
  · rename_i a _ _ _ b _ _ _
    cases a with
    | none =>
      obtain ⟨_, _, rfl⟩ := vr_sliceNil hx
      cases b with
      | none => obtain ⟨_, _, rfl⟩ := vr_sliceNil hy; simp at hq; subst hq; simp [Op.equalIn, run_und w hu]
      | some b => obtain ⟨_, _, _, _, _, _, rfl, _⟩ := vr_slice hy; simp at hq; subst hq; simp [Op.equalIn, run_und w hu]
    | some a =>
      obtain ⟨_, _, _, _, _, _, rfl, _⟩ := vr_slice hx
      cases b with
      | none => obtain ⟨_, _, rfl⟩ := vr_sliceNil hy; simp at hq; subst hq; simp [Op.equalIn, run_und w hu]
      | some b => simp at hq
  · cases hq

theorem eqMap_sound {t k e : TypeId} (hu : P.underlying t = some (.map k e)) {x y : AV} {x' y' : Value} {r : Bool} (hx : VR φ x x') (hy : VR φ y y') (hq : eqMap x y = some r) (d : Nat) : (Op.equalIn (d + 1) t x' y').run P w = .ok r w := by
  unfold eqMap at hq
  split at hq
  · rename_i a b
    cases a with
    | none =>
      have e1 : x' = .map none := by simpa [VR] using hx
      subst e1
      cases b with
      | none => have e2 : y' = .map none := by simpa [VR] using hy
                subst e2; simp at hq; subst hq; simp [Op.equalIn, run_und w hu]
      | some b => simp only [VR] at hy; obtain ⟨_, _, _, rfl⟩ := hy; simp at hq; subst hq; simp [Op.equalIn, run_und w hu]
    | some a =>
      simp only [VR] at hx
      obtain ⟨_, _, _, rfl⟩ := hx
      cases b with
      | none => have e2 : y' = .map none := by simpa [VR] using hy
                subst e2; simp at hq; subst hq; simp [Op.equalIn, run_und w hu]
      | some b => simp at hq
  · cases hq

theorem vr_func {fn : Fn} {fs cs : List AV} {v : Value} (hv : VR φ (.func fn fs cs) v) : ∃ fn' fs' cs', v = .func fn' fs' cs' := by
  cases fn <;> simp only [VR] at hv
  case yield l => obtain ⟨_, _, _, _, _, rfl, _, _⟩ := hv; exact ⟨_, _, _, rfl⟩
  all_goals (obtain ⟨_, _, rfl, _, _⟩ := hv; exact ⟨_, _, _, rfl⟩)

theorem eqFunc_sound {t : TypeId} {a b : Array TypeId} {c : Bool} (hu : P.underlying t = some (.func a b c)) {x y : AV} {x' y' : Value} {r : Bool} (hx : VR φ x x') (hy : VR φ y y') (hq : eqFunc x y = some r) (d : Nat) : (Op.equalIn (d + 1) t x' y').run P w = .ok r w := by
  unfold eqFunc at hq
  split at hq
  · have e1 : x' = .nilFunc := by simpa [VR] using hx
    have e2 : y' = .nilFunc := by simpa [VR] using hy
    subst e1; subst e2; simp at hq; subst hq; simp [Op.equalIn, run_und w hu]
  · have e1 : x' = .nilFunc := by simpa [VR] using hx
    obtain ⟨_, _, _, rfl⟩ := vr_func hy
    subst e1; simp at hq; subst hq; simp [Op.equalIn, run_und w hu]
  · have e2 : y' = .nilFunc := by simpa [VR] using hy
    obtain ⟨_, _, _, rfl⟩ := vr_func hx
    subst e2; simp at hq; subst hq; simp [Op.equalIn, run_und w hu]
  · cases hq

theorem eqIface_sound {t : TypeId} {ms : Array (String × TypeId)} (hu : P.underlying t = some (.interface ms)) {x y : AV} {x' y' : Value} {r : Bool} (hx : VR φ x x') (hy : VR φ y y') (hq : eqIface x y = some r) (d : Nat) : (Op.equalIn (d + 1) t x' y').run P w = .ok r w := by
  unfold eqIface at hq
  split at hq
  · rw [vr_nilIface hx, vr_nilIface hy]; simp at hq; subst hq; simp [Op.equalIn, run_und w hu]
  · obtain ⟨_, rfl, _⟩ := vr_iface hy; rw [vr_nilIface hx]; simp at hq; subst hq; simp [Op.equalIn, run_und w hu]
  · obtain ⟨_, rfl, _⟩ := vr_iface hx; rw [vr_nilIface hy]; simp at hq; subst hq; simp [Op.equalIn, run_und w hu]
  · cases hq

theorem aggOf_some {x : AV} {xs : List AV} (hx : aggOf x = some xs) : x = .agg xs := by
  cases x <;> simp [aggOf] at hx; rw [hx]

/-- TWO VALUES COMPARED. -/
theorem eq_sound (hr : Rel P ifs φ w0 h w) : ∀ (n : Nat) (t : TypeId) (ty : EqTy), eqTyOf P n t = some ty → ∀ (d : Nat), n ≤ d → ∀ (x y : AV) (x' y' : Value) (r : Bool), VR φ x x' → VR φ y y' → ty.eq h x y = some r → (Op.equalIn d t x' y').run P w = .ok r w
  | 0, t, ty, he, d, hd, x, y, x', y', r, hx, hy, hq => by simp [eqTyOf] at he
  | n + 1, t, ty, he, 0, hd, x, y, x', y', r, hx, hy, hq => by omega
  | n + 1, t, ty, he, d + 1, hd, x, y, x', y', r, hx, hy, hq => by
    unfold eqTyOf at he
    split at he
    · rename_i hu; simp at he; subst he; simp only [EqTy.eq] at hq; exact eqBool_sound hu hx hy hq d
    · rename_i kk hu; simp at he; subst he; simp only [EqTy.eq] at hq; exact eqInt_sound hu hx hy hq d
    · rename_i hu; simp at he; subst he; simp only [EqTy.eq] at hq; exact eqStr_sound hu hx hy hq d
    · rename_i e hu
      split at he <;> simp at he
      rename_i sz hsz
      subst he; simp only [EqTy.eq] at hq
      exact eqPtr_sound hr hu hsz hx hy hq d
    · rename_i e hu; simp at he; subst he; simp only [EqTy.eq] at hq; exact eqSlice_sound hu hx hy hq d
    · rename_i k e hu; simp at he; subst he; simp only [EqTy.eq] at hq; exact eqMap_sound hu hx hy hq d
    · rename_i a1 a2 a3 hu; simp at he; subst he; simp only [EqTy.eq] at hq; exact eqFunc_sound hu hx hy hq d
    · rename_i ms hu; simp at he; subst he; simp only [EqTy.eq] at hq; exact eqIface_sound hu hx hy hq d
    · rename_i fs hu
      split at he
      case isTrue => cases he
      rename_i hst
      simp only [Option.map_eq_some_iff] at he
      obtain ⟨fts, hall, rfl⟩ := he
      simp only [EqTy.eq] at hq
      split at hq
      case h_2 => cases hq
      rename_i xs ys ex ey
      rw [aggOf_some ex] at hx
      rw [aggOf_some ey] at hy
      obtain ⟨xs', rfl, hxs⟩ := vr_agg hx
      obtain ⟨ys', rfl, hys⟩ := vr_agg hy
      rw [run_equalIn_struct w d t xs' ys' (by rw [fieldsOf_eq hu]; exact hu) (by simpa using hst), fieldsOf_eq hu]
      have key : ∀ (l : List Field) (fts : List (Nat × Nat × Bool × EqTy)) (r : Bool), optAll (l.map fun f => if f.name = "_" then none else
            match szOf P f.type, isAggOf P f.type, eqTyOf P n f.type with
            | some s, some a, some e => some (f.offset, s, a, e)
            | _, _, _ => none) = some fts → EqTy.eqs h fts xs ys = some r → (Op.eqFields d xs' ys' l).run P w = .ok r w := by
        intro l
        induction l with
        | nil => intro fts r hf hq; simp [optAll] at hf; subst hf; simp [EqTy.eqs] at hq; subst hq; simp [Op.eqFields]
        | cons f l ih =>
          intro fts r hf hq
          obtain ⟨a, r', h1, h2, rfl⟩ := optAll_cons hf
          dsimp only at h1
          split at h1
          · cases h1
          rename_i hname
          split at h1 <;> simp at h1
          rename_i s ag e g1 g2 g3
          subst h1
          simp only [EqTy.eqs] at hq
          split at hq
          case h_2 => cases hq
          rename_i xa ya p1 p2
          obtain ⟨xv, q1, q2⟩ := part_sound (P := P) g1 g2 hxs p1 w
          obtain ⟨yv, q3, q4⟩ := part_sound (P := P) g1 g2 hys p2 w
          have hrec := fun r0 (hr0 : EqTy.eq h e xa ya = some r0) => eq_sound hr n f.type e g3 d (by omega) xa ya xv yv r0 q2 q4 hr0
          simp only [Op.eqFields, ne_eq, hname, not_false_eq_true, if_true, Sem.run_bind, q1, Result.andThen_ok, q3]
          split at hq
          · rename_i e0
            simp [hrec true e0]
            exact ih _ _ h2 hq
          · rename_i e0
            simp at hq; subst hq
            simp [hrec false e0]
          · cases hq
      exact key _ _ _ hall hq
    · cases he
end
end Go.Proofs.YtjihmonajekomaaGreatDoor.Ax
