/- The operations that leave memory alone and look at none: what the evaluator gives is what the model gives. Conditions: as each theorem states. -/
import Derived.Test.YtjihmonajekomaaGreatDoorAx5
namespace Go.Proofs.YtjihmonajekomaaGreatDoor.Ax
open Go Go.RowKit
set_option linter.unusedVariables false

section runs
variable {P : Program} {t : TypeId} (w : World)

theorem run_und {d : TypeDesc} (h : P.underlying t = some d) : (underlying t).run P w = .ok d w := by simp [underlying, program, Sem.run, h]
theorem run_tinfo {i : TypeInfo} (h : P.info? t = some i) : (typeInfo t).run P w = .ok i w := by simp [typeInfo, program, Sem.run, h]
theorem run_size {n : Nat} (h : szOf P t = some n) : (sizeOf t).run P w = .ok n w := by
  unfold szOf at h
  cases e : P.info? t with
  | none => simp [e] at h
  | some i => simp [e] at h; simp [sizeOf, run_tinfo w e, h]
theorem run_isAgg {b : Bool} (h : isAggOf P t = some b) : (isAgg t).run P w = .ok b w := by
  unfold isAggOf at h
  cases e : P.underlying t with
  | none => simp [e] at h
  | some d => rw [e] at h; simp only [isAgg, Sem.run_bind, run_und w e, Result.andThen_ok]; cases d <;> simp_all
theorem run_zeroV {i : TypeInfo} {z : Value} (h : P.info? t = some i) (hz : i.zero = some z) : (zeroValue t).run P w = .ok z w := by
  simp [zeroValue, run_tinfo w h, hz]
end runs

theorem ofBase_vr {φ : Emb} {v : Value} {a : AV} (h : ofBase v = some a) : VR φ a v := by
  unfold ofBase at h
  split at h <;> simp at h <;> subst h <;> simp [VR]

theorem ofBase_flat {v : Value} {a : AV} (h : ofBase v = some a) : flat a = true := by
  unfold ofBase at h
  split at h <;> simp at h <;> subst h <;> rfl

theorem optAll_nil {α : Type} : optAll ([] : List (Option α)) = some [] := rfl

theorem optAll_cons {α : Type} {x : Option α} {l : List (Option α)} {r : List α} (h : optAll (x :: l) = some r) : ∃ a r', x = some a ∧ optAll l = some r' ∧ r = a :: r' := by
  cases x with
  | none => simp [optAll] at h
  | some a =>
    simp only [optAll, Option.map_eq_some_iff] at h
    obtain ⟨r', h1, rfl⟩ := h
    exact ⟨a, r', rfl, h1, rfl⟩

theorem optAll_base {φ : Emb} : ∀ {l : List Value} {r : List AV}, optAll (l.map ofBase) = some r → VRs φ r l ∧ ∀ a ∈ r, flat a = true
  | [], r, h => by simp [optAll] at h; subst h; exact ⟨VRs.nil, by simp⟩
  | v :: l, r, h => by
    obtain ⟨a, r', h1, h2, rfl⟩ := optAll_cons h
    obtain ⟨h3, h4⟩ := optAll_base (φ := φ) h2
    exact ⟨VRs.cons (ofBase_vr h1) h3, fun x hx => by rcases List.mem_cons.1 hx with rfl | hx; exact ofBase_flat h1; exact h4 x hx⟩

/-- The zero cells of a type. -/
theorem zeroCells_spec {P : Program} {t : TypeId} {zs : List AV} (h : zeroCellsOf P t = some zs) (φ : Emb) : ∃ i z, P.info? t = some i ∧ i.zero = some z ∧ VRs φ zs z.cells.toList ∧ ∀ a ∈ zs, flat a = true := by
  unfold zeroCellsOf at h
  split at h
  · rename_i i hi
    split at h
    · rename_i z hz
      obtain ⟨h1, h2⟩ := optAll_base (φ := φ) h
      exact ⟨i, z, hi, hz, h1, h2⟩
    · cases h
  · cases h

/-- Operands: what the evaluator reads stands for what the model reads. -/
def Opds (φ : Emb) (env : List AV) (ρ : Operand → Value) : Prop := ∀ x y, cOpd x = some y → VR φ (y.ev env) (ρ x)

theorem cOpds_vr {φ : Emb} {env : List AV} {ρ : Operand → Value} (ho : Opds φ env ρ) : ∀ {xs : List Operand} {ys : List AOpd}, optAll (xs.map cOpd) = some ys → VRs φ (ys.map (·.ev env)) (xs.map ρ)
  | [], ys, h => by simp [optAll] at h; subst h; exact VRs.nil
  | x :: xs, ys, h => by
    obtain ⟨a, r', h1, h2, rfl⟩ := optAll_cons h
    exact VRs.cons (ho x a h1) (cOpds_vr ho h2)

section vr
variable {φ : Emb} {v : Value}
theorem vr_bool {b : Bool} (h : VR φ (.bool b) v) : v = .bool b := by simpa [VR] using h
theorem vr_int {k : IntKind} {n : Int} (h : VR φ (.int k n) v) : v = .int k n := by simpa [VR] using h
theorem vr_str {s : List Nat} (h : VR φ (.str s) v) : ∃ t, v = .string t ∧ t.data.toList.map UInt8.toNat = s := by simpa [VR] using h
theorem vr_ptr {a : Nat × Nat} (h : VR φ (.ptr (some a)) v) : ∃ b c N, φ a.1 = some (b, c, N) ∧ v = .pointer (some ⟨b, c + a.2, none⟩) := by simpa [VR] using h
theorem vr_slice {a : Nat × Nat} {n c es : Nat} (h : VR φ (.slice (some a) n c es) v) : ∃ b co N cc p, φ a.1 = some (b, co, N) ∧ v = .slice (some p) n cc ∧ n ≤ c ∧ c ≤ cc ∧ (cc = 0 ∨ (p = ⟨b, co + a.2, none⟩ ∧ co + a.2 + cc * es ≤ N)) := by simpa only [VR] using h
theorem vr_sliceNil {n c es : Nat} (h : VR φ (.slice none n c es) v) : n = 0 ∧ c = 0 ∧ v = .slice none 0 0 := by simpa only [VR] using h
theorem vr_agg {cs : List AV} (h : VR φ (.agg cs) v) : ∃ cs', v = .agg cs' ∧ VRs φ cs cs'.toList := by simpa only [VR] using h
theorem vr_tuple {cs : List AV} (h : VR φ (.tuple cs) v) : ∃ cs', v = .tuple cs' ∧ VRs φ cs cs'.toList := by simpa only [VR] using h
theorem vr_iface {t : TypeId} {a : AV} (h : VR φ (.iface t a) v) : ∃ u, v = .iface t u ∧ VR φ a u := by simpa only [VR] using h
theorem vr_nilIface (h : VR φ .nilIface v) : v = .nilIface := by simpa only [VR] using h
end vr

/-! ### Numbers and strings -/
theorem map_toNat_inj : ∀ {a b : List UInt8}, a.map UInt8.toNat = b.map UInt8.toNat → a = b
  | [], [], _ => rfl
  | [], _ :: _, h => by simp at h
  | _ :: _, [], h => by simp at h
  | x :: a, y :: b, h => by
    simp only [List.map_cons, List.cons.injEq] at h
    rw [UInt8.toNat_inj.1 h.1, map_toNat_inj h.2]

theorem bytes_beq (a b : List UInt8) : (a == b) = (a.map UInt8.toNat == b.map UInt8.toNat) := by
  rw [Bool.eq_iff_iff, beq_iff_eq, beq_iff_eq]
  exact ⟨fun h => by rw [h], map_toNat_inj⟩

theorem bytes_lt : ∀ (a b : List UInt8), Op.bytesLess a b = strLt (a.map UInt8.toNat) (b.map UInt8.toNat)
  | _, [] => by cases ‹List UInt8› <;> simp [Op.bytesLess, strLt]
  | [], _ :: _ => rfl
  | x :: a, y :: b => by
    simp only [Op.bytesLess, List.map_cons, strLt, bytes_lt a b]
    have h1 : decide (x < y) = decide (x.toNat < y.toNat) := by simp [UInt8.lt_iff_toNat_lt]
    have h2 : (x == y) = (x.toNat == y.toNat) := by rw [Bool.eq_iff_iff, beq_iff_eq, beq_iff_eq]; exact ⟨fun h => by rw [h], UInt8.toNat_inj.1⟩
    rw [h1, h2]

theorem byteArray_toList (s : ByteArray) : s.toList = s.data.toList := by
  exact ByteArray.toList_eq s

theorem bin_sound {P : Program} {φ : Emb} {op : BinOp} {t : TypeId} {x y v : AV} {x' y' : Value} (hx : VR φ x x') (hy : VR φ y y') (hv : binAV op x y = some v) (w : World) :
    ∃ v', (binOp op t x' y').run P w = .ok v' w ∧ VR φ v v' := by
  unfold binAV at hv
  split at hv
  · rename_i k a k' b
    obtain rfl := vr_int hx
    obtain rfl := vr_int hy
    split at hv
    · split at hv
      · cases hv
      · rename_i hb
        simp at hv; subst hv
        exact ⟨_, by simp [binOp, Op.shift, hb]; rfl, by simp [VR]⟩
    · split at hv
      · cases hv
      · rename_i hb
        simp at hv; subst hv
        exact ⟨_, by simp [binOp, Op.shift, hb]; rfl, by simp [VR]⟩
    · rename_i op' h1 h2
      split at hv
      case isFalse => cases hv
      rename_i hk
      subst hk
      unfold intBin at hv
      split at hv <;> first
        | (simp at hv; subst hv; exact ⟨_, by simp [binOp, Op.intArith, Op.intBits, Op.intCmp]; rfl, by simp [VR]⟩)
        | (split at hv
           · cases hv
           · rename_i hb
             simp at hv; subst hv
             exact ⟨_, by simp [binOp, Op.intDiv, hb]; rfl, by simp [VR]⟩)
        | cases hv
  · rename_i a b
    obtain ⟨s, rfl, rfl⟩ := vr_str hx
    obtain ⟨s', rfl, rfl⟩ := vr_str hy
    unfold strBin at hv
    split at hv <;> first
      | (split at hv
         · rename_i hl
           simp at hv; subst hv
           have hsz : ¬ (((s.size + s'.size : Nat) : Int) > IntKind.i64.max) := by
             have e1 : s.data.toList.length = s.size := by simp
             have e2 : s'.data.toList.length = s'.size := by simp
             simp only [List.length_map, maxText, e1, e2] at hl
             simp [IntKind.max, IntKind.signed, IntKind.bits]
             omega
           refine ⟨.string (s ++ s'), ?_, ?_⟩
           · simp only [binOp, Op.stringOp, if_neg hsz, Sem.run_pure]
           · simp only [VR]; exact ⟨_, rfl, by simp⟩
         · cases hv)
      | (simp at hv; subst hv; exact ⟨_, by simp only [binOp, Op.stringOp, Sem.run_pure, byteArray_toList, bytes_beq, bytes_lt]; rfl, by simp [VR]⟩)
      | cases hv
  · cases hv

/-! ### Addresses -/
theorem add_plain (b o n : Nat) : (⟨b, o, none⟩ : Addr).add n = ⟨b, o + n, none⟩ := by
  unfold Addr.add; split <;> simp_all

theorem fieldAt_sound {P : Program} {s : TypeId} {fs : Array Field} {f : Nat} {fd : Field} {n : Nat} (hs : P.underlying s = some (.struct fs)) (hf : fs[f]? = some fd) (hn : szOf P fd.type = some (n + 1)) (b o : Nat) (w : World) :
    (Instr.fieldAt s (.pointer (some ⟨b, o, none⟩)) f).run P w = .ok (.pointer (some ⟨b, o + fd.offset, none⟩)) w := by
  simp [Instr.fieldAt, run_und w hs, hf, Instr.sureAddr, fieldPlace, run_size w hn, add_plain]

theorem indexAt_slice {P : Program} {t e : TypeId} {sz : Nat} (ht : P.underlying t = some (.slice e)) (he : szOf P e = some sz) (b o len cap : Nat) (k : IntKind) (n : Int) (h0 : 0 ≤ n) (h1 : n < len) (w : World) :
    (Instr.indexAt t (.slice (some ⟨b, o, none⟩) len cap) (.int k n)).run P w = .ok (.pointer (some ⟨b, o + n.toNat * sz, none⟩)) w := by
  simp [Instr.indexAt, asIntOf, run_und w ht, h0, h1, run_size w he, add_plain]

theorem indexAt_arr {P : Program} {t e : TypeId} {sz m : Nat} (ht : P.underlying t = some (.array m e)) (he : szOf P e = some sz) (b o : Nat) (k : IntKind) (n : Int) (h0 : 0 ≤ n) (h1 : n < m) (w : World) :
    (Instr.indexAt t (.pointer (some ⟨b, o, none⟩)) (.int k n)).run P w = .ok (.pointer (some ⟨b, o + n.toNat * sz, none⟩)) w := by
  simp [Instr.indexAt, asIntOf, run_und w ht, h0, h1, run_size w he, add_plain, Instr.sureAddr]

/-! ### Slices -/
theorem bound_spec {φ : Emb} {x : AV} {v : Value} {y n : Nat} (h : bound x y = some n) (hx : VR φ x v) : n ≤ y ∧ ∃ k, v = .int k n := by
  unfold bound at h
  split at h
  · rename_i k i
    split at h
    · rename_i hi
      simp at h; subst h
      obtain rfl := vr_int hx
      exact ⟨by omega, k, by rw [Int.toNat_of_nonneg hi.1]⟩
    · cases h
  · cases h

def OptVR (φ : Emb) : Option AV → Option Value → Prop
  | none, none => True
  | some a, some v => VR φ a v
  | _, _ => False

theorem sliceBound_run {P : Program} (k : IntKind) (n y : Nat) (code : BoundsCode) (h : n ≤ y) (w : World) : (Instr.sliceBound (.int k n) y code).run P w = .ok n w := by
  simp [Instr.sliceBound, asIntOf, h]

theorem bounds_spec {P : Program} {φ : Emb} {len cap ccap : Nat} {lo hi mx : Option AV} {lo' hi' mx' : Option Value} {l h m : Nat} (hb : bounds len cap lo hi mx = some (l, h, m)) (hlc : len ≤ cap) (hc : cap ≤ ccap)
    (hlo : OptVR φ lo lo') (hhi : OptVR φ hi hi') (hmx : OptVR φ mx mx') (isS : Bool) (w : World) :
    l ≤ h ∧ h ≤ m ∧ m ≤ cap ∧ (mx = none → m = cap) ∧ (Instr.sliceBounds isS len ccap lo' hi' mx').run P w = .ok (l, h, if mx'.isSome then m else ccap) w := by
  unfold bounds at hb
  cases mx with
  | none =>
    cases mx' with
    | some _ => simp [OptVR] at hmx
    | none =>
      simp only at hb
      cases hi with
      | none =>
        cases hi' with
        | some _ => simp [OptVR] at hhi
        | none =>
          simp only [Option.isSome_none, Bool.false_eq_true, if_false] at hb
          cases lo with
          | none =>
            cases lo' with
            | some _ => simp [OptVR] at hlo
            | none => simp at hb; obtain ⟨rfl, rfl, rfl⟩ := hb; exact ⟨by omega, hlc, Nat.le_refl _, fun _ => rfl, by simp [Instr.sliceBounds]⟩
          | some x =>
            cases lo' with
            | none => simp [OptVR] at hlo
            | some x' =>
              cases hx : bound x len with
              | none => simp [hx] at hb
              | some n =>
                simp [hx] at hb; obtain ⟨rfl, rfl, rfl⟩ := hb
                obtain ⟨h1, k, rfl⟩ := bound_spec hx hlo
                exact ⟨h1, hlc, Nat.le_refl _, fun _ => rfl, by simp [Instr.sliceBounds, sliceBound_run _ _ _ _ h1]⟩
      | some y =>
        cases hi' with
        | none => simp [OptVR] at hhi
        | some y' =>
          cases hy : bound y cap with
          | none => simp [hy] at hb
          | some q =>
            obtain ⟨h2, k2, rfl⟩ := bound_spec hy hhi
            simp only [hy] at hb
            cases lo with
            | none =>
              cases lo' with
              | some _ => simp [OptVR] at hlo
              | none => simp at hb; obtain ⟨rfl, rfl, rfl⟩ := hb; exact ⟨by omega, h2, Nat.le_refl _, fun _ => rfl, by simp [Instr.sliceBounds, sliceBound_run k2 q ccap _ (by omega)]⟩
            | some x =>
              cases lo' with
              | none => simp [OptVR] at hlo
              | some x' =>
                cases hx : bound x q with
                | none => simp [hx] at hb
                | some n =>
                  simp [hx] at hb; obtain ⟨rfl, rfl, rfl⟩ := hb
                  obtain ⟨h1, k, rfl⟩ := bound_spec hx hlo
                  exact ⟨h1, h2, Nat.le_refl _, fun _ => rfl, by simp [Instr.sliceBounds, sliceBound_run k2 q ccap _ (by omega), sliceBound_run _ _ _ _ h1]⟩
  | some z =>
    cases mx' with
    | none => simp [OptVR] at hmx
    | some z' =>
      cases hz : bound z cap with
      | none => simp [hz] at hb
      | some mm =>
        obtain ⟨h3, k3, rfl⟩ := bound_spec hz hmx
        simp only [hz, Option.isSome_some] at hb
        cases hi with
        | none => simp at hb
        | some y =>
          cases hi' with
          | none => simp [OptVR] at hhi
          | some y' =>
            cases hy : bound y mm with
            | none => simp [hy] at hb
            | some q =>
              obtain ⟨h2, k2, rfl⟩ := bound_spec hy hhi
              simp only [hy] at hb
              cases lo with
              | none =>
                cases lo' with
                | some _ => simp [OptVR] at hlo
                | none => simp at hb; obtain ⟨rfl, rfl, rfl⟩ := hb; exact ⟨by omega, h2, h3, by simp, by simp [Instr.sliceBounds, sliceBound_run k3 mm ccap _ (by omega), sliceBound_run k2 q mm _ h2]⟩
              | some x =>
                cases lo' with
                | none => simp [OptVR] at hlo
                | some x' =>
                  cases hx : bound x q with
                  | none => simp [hx] at hb
                  | some n =>
                    simp [hx] at hb; obtain ⟨rfl, rfl, rfl⟩ := hb
                    obtain ⟨h1, k, rfl⟩ := bound_spec hx hlo
                    exact ⟨h1, h2, h3, by simp, by simp [Instr.sliceBounds, sliceBound_run k3 mm ccap _ (by omega), sliceBound_run k2 q mm _ h2, sliceBound_run _ _ _ _ h1]⟩

theorem sliceNil_sound {P : Program} {φ : Emb} {t e : TypeId} {sz es : Nat} (ht : P.underlying t = some (.slice e)) (he : szOf P e = some sz) {lo hi mx : Option AV} {lo' hi' mx' : Option Value} {l h m : Nat} (hb : bounds 0 0 lo hi mx = some (l, h, m))
    (hlo : OptVR φ lo lo') (hhi : OptVR φ hi hi') (hmx : OptVR φ mx mx') (w : World) :
    ∃ v', (Instr.sliceAt t (.slice none 0 0) lo' hi' mx').run P w = .ok v' w ∧ VR φ (.slice none (h - l) (m - l) es) v' := by
  obtain ⟨h1, h2, h3, h4, hr⟩ := bounds_spec (P := P) hb (Nat.le_refl _) (Nat.le_refl _) hlo hhi hmx true w
  refine ⟨.slice none 0 0, ?_, ?_⟩
  · have e1 : l = 0 := by omega
    have e2 : h = 0 := by omega
    have e3 : m = 0 := by omega
    subst e1 e2 e3
    simp [Instr.sliceAt, run_und w ht, Instr.slice, hr, run_size w he]
  · simp only [VR]; exact ⟨by omega, by omega, trivial⟩

theorem slice_sound {P : Program} {φ : Emb} {t e : TypeId} {sz : Nat} (ht : P.underlying t = some (.slice e)) (he : szOf P e = some sz) {i o len cap : Nat} {v : Value} (hv : VR φ (.slice (some (i, o)) len cap sz) v)
    {lo hi mx : Option AV} {lo' hi' mx' : Option Value} {l h m : Nat} (hb : bounds len cap lo hi mx = some (l, h, m)) (hlo : OptVR φ lo lo') (hhi : OptVR φ hi hi') (hmx : OptVR φ mx mx') (w : World) :
    ∃ v', (Instr.sliceAt t v lo' hi' mx').run P w = .ok v' w ∧ VR φ (.slice (some (i, o + l * sz)) (h - l) (m - l) sz) v' := by
  obtain ⟨b, co, N, cc, p, hφ, rfl, hlc, hc, hp⟩ := vr_slice hv
  obtain ⟨h1, h2, h3, h4, hr⟩ := bounds_spec (P := P) hb hlc hc hlo hhi hmx true w
  have hrun : (Instr.sliceAt t (.slice (some p) len cc) lo' hi' mx').run P w =
      .ok (.slice (if (if mx'.isSome then m else cc) = l then some p else some (p.add (l * sz))) (h - l) ((if mx'.isSome then m else cc) - l)) w := by
    simp [Instr.sliceAt, run_und w ht, Instr.slice, hr, run_size w he]
  refine ⟨_, hrun, ?_⟩
  have hm : m ≤ (if mx'.isSome then m else cc) ∧ (if mx'.isSome then m else cc) ≤ cc := by split <;> omega
  generalize (if mx'.isSome = true then m else cc) = M at hm
  simp only [VR]
  by_cases e : M = l
  · rw [if_pos e]
    exact ⟨b, co, N, M - l, p, hφ, rfl, by omega, by omega, .inl (by omega)⟩
  · rw [if_neg e]
    refine ⟨b, co, N, M - l, _, hφ, rfl, by omega, by omega, .inr ?_⟩
    rcases hp with hp | ⟨rfl, hp⟩
    · omega
    · refine ⟨by rw [add_plain, Nat.add_assoc], ?_⟩
      have : l * sz + (M - l) * sz ≤ cc * sz := by rw [← Nat.add_mul]; exact Nat.mul_le_mul_right _ (by omega)
      omega

theorem sliceArr_sound {P : Program} {φ : Emb} {t e : TypeId} {n sz : Nat} (ht : P.underlying t = some (.array n e)) (he : szOf P e = some sz) {b o : Nat}
    {lo hi mx : Option AV} {lo' hi' mx' : Option Value} {l h m : Nat} (hb : bounds n n lo hi mx = some (l, h, m)) (hlo : OptVR φ lo lo') (hhi : OptVR φ hi hi') (hmx : OptVR φ mx mx') (w : World) :
    ∃ p, (Instr.sliceAt t (.pointer (some ⟨b, o, none⟩)) lo' hi' mx').run P w = .ok (.slice (some p) (h - l) (m - l)) w ∧ (m = l ∨ p = ⟨b, o + l * sz, none⟩) ∧ l ≤ h ∧ h ≤ m ∧ m ≤ n := by
  obtain ⟨h1, h2, h3, h4, hr⟩ := bounds_spec (P := P) hb (Nat.le_refl _) (Nat.le_refl _) hlo hhi hmx false w
  have hmm : (if mx'.isSome then m else n) = m := by
    cases mx with
    | none => cases mx' with
      | none => simp [h4]
      | some _ => simp [OptVR] at hmx
    | some _ => cases mx' with
      | none => simp [OptVR] at hmx
      | some _ => rfl
  rw [hmm] at hr
  refine ⟨if m = l then ⟨b, o, none⟩ else (⟨b, o, none⟩ : Addr).add (l * sz), ?_, ?_, h1, h2, h3⟩
  · simp only [Instr.sliceAt, Sem.run_bind, run_und w ht, Result.andThen_ok, Instr.sureAddr, Sem.run_pure, hr, run_size w he]
  · by_cases e : m = l
    · exact .inl e
    · exact .inr (by rw [if_neg e, add_plain])

theorem sliceStr_sound {P : Program} {φ : Emb} {t : TypeId} (ht : P.underlying t = some .string) {s : List Nat} {v : Value} (hv : VR φ (.str s) v) {lo hi : Option AV} {lo' hi' : Option Value} {l h m : Nat}
    (hb : bounds s.length s.length lo hi none = some (l, h, m)) (hlo : OptVR φ lo lo') (hhi : OptVR φ hi hi') (w : World) :
    ∃ v', (Instr.sliceAt t v lo' hi' none).run P w = .ok v' w ∧ VR φ (.str ((s.drop l).take (h - l))) v' := by
  obtain ⟨c, rfl, rfl⟩ := vr_str hv
  have hl : (c.data.toList.map UInt8.toNat).length = c.size := by simp
  rw [hl] at hb
  obtain ⟨h1, h2, h3, h4, hr⟩ := bounds_spec (P := P) (mx' := none) hb (Nat.le_refl _) (Nat.le_refl _) hlo hhi trivial false w
  refine ⟨.string (c.extract l h), ?_, ?_⟩
  · simp [Instr.sliceAt, run_und w ht, Instr.slice, hr]
  · simp only [VR]
    refine ⟨_, rfl, ?_⟩
    rw [ByteArray.data_extract, Array.toList_extract, List.extract_eq_drop_take', List.map_drop, List.map_take, List.drop_take]

end Go.Proofs.YtjihmonajekomaaGreatDoor.Ax
