/- Every operation that only reads memory, the whole: what the evaluator gives is what the model gives. Conditions: as each theorem states. -/
import Derived.Test.YtjihmonajekomaaGreatDoorAx10
namespace Go.Proofs.YtjihmonajekomaaGreatDoor.Ax
open Go Go.RowKit
set_option linter.unusedVariables false

section
variable {P : Program} {ifs : List TypeId} {φ : Emb} {w0 w : World} {h : AH}

/-- What a search for a key gives. -/
def FR (φ : Emb) : Option (Nat × AV) → Option (Nat × Value) → Prop
  | none, none => True
  | some a, some b => a.1 = b.1 ∧ VR φ a.2 b.2
  | _, _ => False

theorem MR.len : ∀ {es : List (AV × AV × Nat)} {l : List MapEntry}, MR φ es l → es.length = l.length
  | [], l, hm => by simp only [MR] at hm; subst hm; rfl
  | e :: r, l, hm => by
    simp only [MR] at hm
    obtain ⟨m, t, rfl, _, _, _, h5⟩ := hm
    simp [MR.len h5]

theorem checkKey_base {t : TypeId} (em : Bool) (d : Nat) (v : Value) (hu : P.underlying t = some .bool ∨ (∃ k, P.underlying t = some (.int k)) ∨ P.underlying t = some .string) : (Instr.checkKey em (d + 1) t v).run P w = .ok () w := by
  rcases hu with hu | ⟨k, hu⟩ | hu <;> simp [Instr.checkKey, run_und w hu]

theorem isBase {t : TypeId} {n : Nat} {e : EqTy} (he : eqTyOf P n t = some e) (hb : e = .bool ∨ e = .int ∨ e = .str) : P.underlying t = some .bool ∨ (∃ k, P.underlying t = some (.int k)) ∨ P.underlying t = some .string := by
  cases n with
  | zero => simp [eqTyOf] at he
  | succ n =>
    unfold eqTyOf at he
    split at he
    · rename_i hu; exact .inl hu
    · rename_i k hu; exact .inr (.inl ⟨k, hu⟩)
    · rename_i hu; exact .inr (.inr hu)
    · split at he <;> simp at he; subst he; simp at hb
    · simp at he; subst he; simp at hb
    · simp at he; subst he; simp at hb
    · simp at he; subst he; simp at hb
    · simp at he; subst he; simp at hb
    · split at he
      · cases he
      · simp only [Option.map_eq_some_iff] at he
        obtain ⟨_, _, rfl⟩ := he
        simp at hb
    · cases he

/-- A key of ours is checked. -/
theorem checkKey_keyed {t : TypeId} {ke : EqTy} {n : Nat} (he : eqTyOf P (n + 1) t = some ke) (em : Bool) (d : Nat) {k : AV} {k' : Value} (hv : VR φ k k') (hf : ke.fits k = true) :
    (Instr.checkKey em (d + 2) t k').run P w = .ok () w := by
  cases ke with
  | bool => exact checkKey_base em (d + 1) k' (isBase he (.inl rfl))
  | int => exact checkKey_base em (d + 1) k' (isBase he (.inr (.inl rfl)))
  | str => exact checkKey_base em (d + 1) k' (isBase he (.inr (.inr rfl)))
  | struct fts =>
    cases k <;> simp only [EqTy.fits] at hf <;> try cases hf
    rename_i xs
    obtain ⟨xs', rfl, hxs⟩ := vr_agg hv
    unfold eqTyOf at he
    split at he <;> first | (cases he; done) | skip
    · split at he <;> cases he
    rename_i fs hu
    split at he
    · cases he
    simp only [Option.map_eq_some_iff] at he
    obtain ⟨fts', hall, e⟩ := he
    simp at e; subst e
    rw [Instr.checkKey]
    simp only [Sem.run_bind, run_und w hu, Result.andThen_ok]
    rw [← Array.forIn_toList]
    have key : ∀ (l : List Field) (fts : List (Nat × Nat × Bool × EqTy)), optAll (l.map fun f => if f.name = "_" then none else
            match szOf P f.type, isAggOf P f.type, eqTyOf P n f.type with
            | some s, some a, some e => some (f.offset, s, a, e)
            | _, _, _ => none) = some fts → (fts.all fun f =>
      match f.2.2.1, f.2.2.2, xs[f.1]? with
      | false, .bool, some (.bool _) => true
      | false, .int, some (.int _ _) => true
      | false, .str, some (.str _) => true
      | _, _, _ => false) = true → ∀ f ∈ l, f.name ≠ "_" ∧ ∃ v, (part f.type xs' f.offset).run P w = .ok v w ∧ (P.underlying f.type = some .bool ∨ (∃ k, P.underlying f.type = some (.int k)) ∨ P.underlying f.type = some .string) := by
      intro l
      induction l with
      | nil => intro fts _ _ f hf'; simp at hf'
      | cons f l ih =>
        intro fts ho ha
        obtain ⟨a, r', h1, h2, rfl⟩ := optAll_cons ho
        simp only [List.all_cons, Bool.and_eq_true] at ha
        intro g hg
        rcases List.mem_cons.1 hg with rfl | hg
        · dsimp only at h1
          split at h1
          · cases h1
          rename_i hname
          split at h1 <;> simp at h1
          rename_i s ag e g1 g2 g3
          subst h1
          refine ⟨hname, ?_⟩
          have ha1 := ha.1
          simp only at ha1
          have hpart : ∀ {v : AV}, ag = false → xs[g.offset]? = some v → ∃ v', (part g.type xs' g.offset).run P w = .ok v' w := fun {v} e1 e2 => by
            subst e1
            obtain ⟨v', q1, _⟩ := part_sound (P := P) (φ := φ) (v := v) g1 g2 hxs (off := g.offset) (by simp [partOf, e2]) w
            exact ⟨v', q1⟩
          split at ha1
          · rename_i _ hx; obtain ⟨v', hv'⟩ := hpart rfl hx; exact ⟨v', hv', isBase g3 (.inl rfl)⟩
          · rename_i _ hx; obtain ⟨v', hv'⟩ := hpart rfl hx; exact ⟨v', hv', isBase g3 (.inr (.inl rfl))⟩
          · rename_i _ hx; obtain ⟨v', hv'⟩ := hpart rfl hx; exact ⟨v', hv', isBase g3 (.inr (.inr rfl))⟩
          · cases ha1
        · exact ih r' h2 ha.2 g hg
    have key2 := key _ _ hall hf
    clear hall hf hu key
    generalize fs.toList = l at key2 ⊢
    induction l with
    | nil => simp
    | cons f l ih =>
      obtain ⟨hn, v, hp, hb⟩ := key2 f (by simp)
      simp only [List.forIn_cons, Sem.run_bind, ne_eq, hn, not_false_eq_true, if_true, hp, Result.andThen_ok, checkKey_base em d v hb, Sem.run_pure]
      exact ih (fun g hg => key2 g (by simp [hg]))
  | _ => cases k <;> simp [EqTy.fits] at hf

theorem findNow_base {d : TypeDesc} {ke : EqTy} (hd : (ke = .bool ∧ d = .bool) ∨ (ke = .int ∧ ∃ k, d = .int k) ∨ (ke = .str ∧ d = .string)) {k : AV} {k' : Value} (hv : VR φ k k') : ∀ {es : List (AV × AV × Nat)} {l : List MapEntry} {i : Nat} {r : Option (Nat × AV)}, MR φ es l → findIn h ke k es i = some r →
    ∃ r', Instr.findNow d k' l i = some r' ∧ FR φ r r'
  | [], l, i, r, hm, hf => by
    simp only [MR] at hm; subst hm
    simp [findIn] at hf; subst hf
    exact ⟨none, rfl, trivial⟩
  | e :: es, l, i, r, hm, hf => by
    simp only [MR] at hm
    obtain ⟨m, tl, rfl, h1, h2, h3, h4⟩ := hm
    simp only [findIn] at hf
    have hs : ∀ b, ke.eq h k e.1 = some b → Instr.sameNow d k' m.key = some b := by
      intro b hb
      rcases hd with ⟨rfl, rfl⟩ | ⟨rfl, kk, rfl⟩ | ⟨rfl, rfl⟩
      · simp only [EqTy.eq] at hb
        unfold eqBool at hb
        split at hb <;> simp at hb
        rename_i ey
        subst hb
        rw [ey] at h1
        rw [vr_bool hv, vr_bool h1]; rfl
      · simp only [EqTy.eq] at hb
        unfold eqInt at hb
        split at hb
        · rename_i ey
          split at hb <;> simp at hb
          rename_i hk
          subst hb
          rw [ey] at h1
          rw [vr_int hv, vr_int h1, hk]; simp [Instr.sameNow]
        · cases hb
      · simp only [EqTy.eq] at hb
        unfold eqStr at hb
        split at hb
        · rename_i ey
          simp only [Option.some.injEq] at hb
          subst hb
          rw [ey] at h1
          obtain ⟨t1, e1, rfl⟩ := vr_str hv
          obtain ⟨t2, e2, rfl⟩ := vr_str h1
          rw [e1, e2]
          simp only [Instr.sameNow, beq_toListBytes, byteArray_toList, bytes_beq]
        · cases hb
    split at hf
    · rename_i hb
      simp at hf; subst hf
      exact ⟨some (i, m.val), by simp [Instr.findNow, hs true hb], rfl, h2⟩
    · rename_i hb
      obtain ⟨r', g1, g2⟩ := findNow_base hd hv h4 hf
      exact ⟨r', by simp [Instr.findNow, hs false hb, g1], g2⟩
    · cases hf

theorem findAsking_sound (hr : Rel P ifs φ w0 h w) {t : TypeId} {ke : EqTy} {n : Nat} (he : eqTyOf P n t = some ke) (hn : n ≤ 10000) {k : AV} {k' : Value} (hv : VR φ k k') : ∀ {es : List (AV × AV × Nat)} {l : List MapEntry} {i : Nat} {r : Option (Nat × AV)}, MR φ es l → findIn h ke k es i = some r →
    ∃ r', (Instr.findAsking t k' l i).run P w = .ok r' w ∧ FR φ r r'
  | [], l, i, r, hm, hf => by
    simp only [MR] at hm; subst hm
    simp [findIn] at hf; subst hf
    exact ⟨none, by simp [Instr.findAsking], trivial⟩
  | e :: es, l, i, r, hm, hf => by
    simp only [MR] at hm
    obtain ⟨m, tl, rfl, h1, h2, h3, h4⟩ := hm
    simp only [findIn] at hf
    have hs : ∀ b, ke.eq h k e.1 = some b → (Op.equal t k' m.key).run P w = .ok b w := fun b hb => eq_sound hr n t ke he Op.maxDepth (by unfold Op.maxDepth; exact hn) _ _ _ _ b hv h1 hb
    split at hf
    · rename_i hb
      simp at hf; subst hf
      exact ⟨some (i, m.val), by simp [Instr.findAsking, hs true hb], rfl, h2⟩
    · rename_i hb
      obtain ⟨r', g1, g2⟩ := findAsking_sound hr he hn hv h4 hf
      exact ⟨r', by simp [Instr.findAsking, hs false hb, g1], g2⟩
    · cases hf

/-- A key is looked for. -/
theorem findKey_sound (hr : Rel P ifs φ w0 h w) {m t e : TypeId} {ke : EqTy} (hm : P.underlying m = some (.map t e)) (hk : keyTy P m = some ke) {k : AV} {k' : Value} (hv : VR φ k k') {es : List (AV × AV × Nat)} {l : List MapEntry} {r : Option (Nat × AV)} (hmr : MR φ es l) (hf : findKeyIn h ke k es = some r) :
    (∀ em, (Instr.checkKey em 10000 t k').run P w = .ok () w) ∧ ∃ r', (Instr.findKey t k' l).run P w = .ok r' w ∧ FR φ r r' := by
  unfold findKeyIn at hf
  split at hf
  case isFalse => cases hf
  rename_i hfit
  unfold keyTy at hk
  rw [hm] at hk
  simp only [Option.bind_eq_some_iff] at hk
  obtain ⟨ke', h1, h2⟩ := hk
  split at h2 <;> simp at h2
  subst h2
  refine ⟨fun em => checkKey_keyed h1 em 9998 hv hfit, ?_⟩
  cases ke' with
  | bool =>
    have hu : P.underlying t = some .bool := by
      rcases isBase h1 (.inl rfl) with hu | ⟨q, hu⟩ | hu <;> first | exact hu | (unfold eqTyOf at h1; rw [hu] at h1; simp at h1)
    obtain ⟨r', g1, g2⟩ := findNow_base (.inl ⟨rfl, rfl⟩) hv hmr hf
    exact ⟨r', by simp [Instr.findKey, run_und w hu, g1], g2⟩
  | int =>
    have hu : ∃ q, P.underlying t = some (.int q) := by
      rcases isBase h1 (.inr (.inl rfl)) with hu | ⟨q, hu⟩ | hu <;> first | exact ⟨_, hu⟩ | (unfold eqTyOf at h1; rw [hu] at h1; simp at h1)
    obtain ⟨q, hu⟩ := hu
    obtain ⟨r', g1, g2⟩ := findNow_base (.inr (.inl ⟨rfl, q, rfl⟩)) hv hmr hf
    exact ⟨r', by simp [Instr.findKey, run_und w hu, g1], g2⟩
  | str =>
    have hu : P.underlying t = some .string := by
      rcases isBase h1 (.inr (.inr rfl)) with hu | ⟨q, hu⟩ | hu <;> first | exact hu | (unfold eqTyOf at h1; rw [hu] at h1; simp at h1)
    obtain ⟨r', g1, g2⟩ := findNow_base (.inr (.inr ⟨rfl, rfl⟩)) hv hmr hf
    exact ⟨r', by simp [Instr.findKey, run_und w hu, g1], g2⟩
  | struct fts =>
    have hu : ∃ fs, P.underlying t = some (.struct fs) := by
      unfold eqTyOf at h1
      split at h1 <;> first | (cases h1; done) | (split at h1 <;> cases h1; done) | exact ⟨_, by assumption⟩
    obtain ⟨fs, hu⟩ := hu
    obtain ⟨r', g1, g2⟩ := findAsking_sound hr h1 (by decide) hv hmr hf
    exact ⟨r', by rw [run_findKey_eq w (by rw [hu])]; exact g1, g2⟩
  | _ => cases k <;> simp [EqTy.fits] at hfit

theorem optGet {es : List (AV × AV × Nat)} {l : List MapEntry} (hm : MR φ es l) : ∀ {i : Nat} {e : AV × AV × Nat}, es[i]? = some e → ∃ m, l[i]? = some m ∧ VR φ e.1 m.key ∧ VR φ e.2.1 m.val ∧ m.born = e.2.2 := by
  induction es generalizing l with
  | nil => intro i e h; simp at h
  | cons x r ih =>
    simp only [MR] at hm
    obtain ⟨m, t, rfl, h2, h3, h4, h5⟩ := hm
    intro i e he
    cases i with
    | zero => simp at he; subst he; exact ⟨m, rfl, h2, h3, h4⟩
    | succ i => exact ih h5 (by simpa using he)

theorem load_one (hr : Rel P ifs φ w0 h w) {a : Nat × Nat} {v : AV} {b co N : Nat} (hi : φ a.1 = some (b, co, N)) (hl : h.cellsAt a 1 = some [v]) : ∃ u, (Go.load ⟨b, co + a.2, none⟩).run P w = .ok u w ∧ VR φ v u := by
  obtain ⟨us, h1, h2, h3⟩ := hr.load (i := a.1) (o := a.2) hi hl
  simp only [VRs] at h1
  obtain ⟨u, r, rfl, hu, _⟩ := h1
  have := h3 0 u rfl
  exact ⟨u, by simp [Go.load, Sem.run, show w.cell? ⟨b, co + a.2, none⟩ = some u by simpa using this], hu⟩

theorem load_many (hr : Rel P ifs φ w0 h w) {a : Nat × Nat} {n : Nat} {vs : List AV} {b co N : Nat} (hi : φ a.1 = some (b, co, N)) (hl : h.cellsAt a n = some vs) : ∃ us : Array Value, (loadCells ⟨b, co + a.2, none⟩ n).run P w = .ok us w ∧ VRs φ vs us.toList := by
  obtain ⟨us, h1, h2, h3⟩ := hr.load (i := a.1) (o := a.2) hi hl
  refine ⟨us.toArray, ?_, by simpa using h1⟩
  have := run_loadCells_list (P := P) w ⟨b, co + a.2, none⟩ us (fun j v hj => by rw [add_plain]; exact h3 j v hj)
  rw [h2] at this
  exact this

theorem loadVar_sound (hr : Rel P ifs φ w0 h w) {t : TypeId} {sz : Option Nat} (hs : aggSize P t = some sz) {y : AOpd} {env : List AV} {x' : Value} (hx : VR φ (y.ev env) x') {v : AV}
    (hv : evalWeak env h (.load sz y) = some v) :
    ∃ a u, x' = .pointer (some a) ∧ (loadVar t a).run P w = .ok u w ∧ VR φ v u := by
  obtain ⟨n, h1, h2, h3⟩ := aggSize_spec hs
  cases sz with
  | none =>
    simp only [evalWeak] at hv
    split at hv
    case h_2 => cases hv
    rename_i a ea
    rw [ea] at hx
    split at hv
    case h_2 => cases hv
    rename_i v' hc
    simp only [Option.some.injEq] at hv
    subst hv
    obtain ⟨b, co, N, hi, rfl⟩ := vr_ptr hx
    obtain ⟨u, g1, g2⟩ := load_one hr hi hc
    exact ⟨_, u, rfl, by simp only [loadVar, Sem.run_bind, run_isAgg w h2, Result.andThen_ok]; simpa using g1, g2⟩
  | some m =>
    have hm : m = n := by rcases h3 with h3 | h3 <;> simp at h3; exact h3
    subst hm
    simp only [evalWeak] at hv
    split at hv
    case h_2 => cases hv
    rename_i a ea
    rw [ea] at hx
    simp only [Option.map_eq_some_iff] at hv
    obtain ⟨vs, hc, rfl⟩ := hv
    obtain ⟨b, co, N, hi, rfl⟩ := vr_ptr hx
    obtain ⟨us, g1, g2⟩ := load_many hr hi hc
    exact ⟨_, .agg us, rfl, by simp [loadVar, run_isAgg w h2, run_size w h1, g1], by simp only [VR]; exact ⟨_, rfl, g2⟩⟩

theorem bytesOf_spec : ∀ {cs : List AV} {bs : List Nat}, bytesOf cs = some bs → ∃ ns : List Int, cs = ns.map (AV.int .u8) ∧ bs = ns.map fun n => n.toNat % 256
  | [], bs, h => by simp [bytesOf] at h; subst h; exact ⟨[], rfl, rfl⟩
  | c :: r, bs, h => by
    unfold bytesOf at h
    split at h
    · rename_i he; simp at he
    · rename_i n r' he
      simp at he
      obtain ⟨rfl, rfl⟩ := he
      simp only [Option.map_eq_some_iff] at h
      obtain ⟨bs', h1, rfl⟩ := h
      obtain ⟨ns, rfl, rfl⟩ := bytesOf_spec h1
      exact ⟨n :: ns, rfl, rfl⟩
    · cases h

theorem vrs_ints : ∀ {ns : List Int} {l : List Value}, VRs φ (ns.map (AV.int .u8)) l → l = ns.map (Value.int .u8)
  | [], l, h => by simpa [VRs] using h
  | n :: ns, l, h => by
    simp only [List.map_cons, VRs] at h
    obtain ⟨v, r, rfl, h1, h2⟩ := h
    rw [vr_int h1, vrs_ints h2]; rfl

theorem byte_mod (n : Int) : (UInt8.ofNat n.toNat).toNat = n.toNat % 256 := by simp
end
end Go.Proofs.YtjihmonajekomaaGreatDoor.Ax
