/- Every operation that the evaluator takes for one that looks at no memory: the whole. Conditions: as each theorem states. -/
import Derived.Test.YtjihmonajekomaaGreatDoorAx8
namespace Go.Proofs.YtjihmonajekomaaGreatDoor.Ax
open Go Go.RowKit
set_option linter.unusedVariables false

section
variable {P : Program} {ifs : List TypeId} {φ : Emb} {env : List AV} {ρ : Operand → Value}

theorem builtin_sound (ho : Opds φ env ρ) {b : Builtin} {ats : Array TypeId} {args : Array Operand} {ao : AOp} (hc : cBuiltin P b ats args = some ao) {v : AV} (hv : evalPure env ao = some v) (ty : TypeId) (cs : Array Bool) (w : World) :
    ∃ v', (builtin b ats ty cs (args.map ρ)).run P w = .ok (.value v') w ∧ VR φ v v' := by
  obtain ⟨ats⟩ := ats
  obtain ⟨args⟩ := args
  unfold cBuiltin at hc
  simp only at hc
  split at hc
  · rename_i t x
    split at hc
    · rename_i x' h1 h2
      simp at hc; subst hc
      simp only [evalPure] at hv
      split at hv <;> simp at hv
      subst hv
      rename_i s hs
      have := ho x _ h2
      rw [hs] at this
      obtain ⟨t', e, rfl⟩ := vr_str this
      exact ⟨_, by simp [builtin, Builtin.len_, run_und w h1, e]; rfl, by simp [VR, goInt]⟩
    · rename_i e x' h1 h2
      simp at hc; subst hc
      simp only [evalPure] at hv
      split at hv <;> simp at hv
      subst hv
      rename_i a n c es hs
      have := ho x _ h2
      rw [hs] at this
      refine ⟨.int .i64 n, ?_, by simp [VR]⟩
      cases a with
      | none => obtain ⟨rfl, _, e⟩ := vr_sliceNil this; simp [builtin, Builtin.len_, run_und w h1, e, goInt]
      | some a => obtain ⟨_, _, _, _, _, _, e, _⟩ := vr_slice this; simp [builtin, Builtin.len_, run_und w h1, e, goInt]
    · simp at hc; subst hc; simp [evalPure] at hv
    · rename_i n e x' h1 h2
      simp at hc; subst hc
      simp [evalPure] at hv; subst hv
      exact ⟨.int .i64 n, by simp [builtin, Builtin.len_, run_und w h1, goInt], by simp [VR]⟩
    · cases hc
  · split at hc
    · cases hc
    · split at hc
      · split at hc
        · simp at hc; subst hc; simp [evalPure] at hv
        · cases hc
      · cases hc
    · cases hc
  · split at hc
    · simp only [Option.map_eq_some_iff] at hc; obtain ⟨_, _, rfl⟩ := hc; simp [evalPure] at hv
    · cases hc
  · split at hc
    · simp at hc; subst hc; simp [evalPure] at hv
    · cases hc
  · rename_i xs
    simp only [Option.map_eq_some_iff, cOpds] at hc
    obtain ⟨ys, h1, rfl⟩ := hc
    have hvr := cOpds_vr ho h1
    simp only [evalPure] at hv
    cases ys with
    | nil => simp at hv
    | cons y ys =>
      simp only [List.map_cons] at hv hvr
      simp only [VRs] at hvr
      obtain ⟨x', r', e, hx, hr⟩ := hvr
      obtain ⟨v', h2, h3⟩ := minmax_sound (P := P) false w hx hr hv
      refine ⟨v', ?_, h3⟩
      simp only [Bool.false_eq_true, if_false] at h2
      simp [builtin, Builtin.min_, e, h2]
  · rename_i xs
    simp only [Option.map_eq_some_iff, cOpds] at hc
    obtain ⟨ys, h1, rfl⟩ := hc
    have hvr := cOpds_vr ho h1
    simp only [evalPure] at hv
    cases ys with
    | nil => simp at hv
    | cons y ys =>
      simp only [List.map_cons] at hv hvr
      simp only [VRs] at hvr
      obtain ⟨x', r', e, hx, hr⟩ := hvr
      obtain ⟨v', h2, h3⟩ := minmax_sound (P := P) true w hx hr hv
      refine ⟨v', ?_, h3⟩
      simp only [if_true] at h2
      simp [builtin, Builtin.max_, e, h2]
  · split at hc
    · split at hc
      · split at hc
        · simp at hc; subst hc; simp [evalPure] at hv
        · cases hc
      · cases hc
    · cases hc
  · cases hc

theorem parts_struct (ho : Opds φ env ρ) {t : TypeId} {ps : Array (Nat × Operand)} {r : List (Nat × Nat × AOpd)} (hc : cParts P t ps = some r) {zero cells : List AV} (hz : zeroCellsOf P t = some zero) (hf : fillIn zero (evParts env r) = some cells) (w : World) :
    ∃ v', (Instr.build t (ps.map fun (i, x) => (i, ρ x))).run P w = .ok v' w ∧ VR φ (.agg cells) v' := by
  unfold cParts at hc
  split at hc
  · rename_i fs ht
    split at hc
    case isFalse => cases hc
    rename_i hall
    refine build_struct ht hall hz (aps := evParts env r) ?_ hf w
    have := parts_of (env := env) ho (place := fun i => (fs[i]?).bind fun (f : Field) => (szOf P f.type).map fun s => (f.offset, s)) (fun p q hq => by
      split at hq
      · rename_i f x h1 h2
        simp only [Option.map_eq_some_iff] at hq
        obtain ⟨s, h3, rfl⟩ := hq
        exact ⟨by simp [h1, h3], h2⟩
      · cases hq) hc
    simpa using this
  · rename_i n e ht
    split at hc
    · rename_i s hs
      refine build_array ht hs hz (aps := evParts env r) ?_ hf w
      have := parts_of (env := env) ho (place := fun i => some (i * s, s)) (fun p q hq => by
        simp only [Option.map_eq_some_iff] at hq
        obtain ⟨x, h3, rfl⟩ := hq
        exact ⟨rfl, h3⟩) hc
      simpa using this
    · cases hc
  · cases hc

theorem pure_bin (ho : Opds φ env ρ) {op : BinOp} {t : TypeId} {x y : Operand} {x' y' : AOpd} (hx : cOpd x = some x') (hy : cOpd y = some y') {v : AV} (hv : binAV op (x'.ev env) (y'.ev env) = some v) (w : World) :
    ∃ v', ((do pure (Next.value (← (do eqGuard op t x y (ρ x) (ρ y); binOp op t (ρ x) (ρ y))))) : Sem Next).run P w = .ok (.value v') w ∧ VR φ v v' := by
  obtain ⟨v', h1, h2⟩ := bin_sound (P := P) (t := t) (ho x _ hx) (ho y _ hy) hv w
  refine ⟨v', ?_, h2⟩
  have hg : (eqGuard op t x y (ρ x) (ρ y)).run P w = .ok () w := by
    refine eqGuard_plain op t x y _ _ ?_ ?_ w
    · rintro ⟨e, _⟩
      have := ho x _ hx
      rw [e] at this
      unfold binAV at hv
      split at hv
      · rename_i h _; rw [h] at this; simp [VR] at this
      · rename_i h _; rw [h] at this; simp [VR] at this
      · cases hv
    · rintro ⟨⟨c, e⟩, _⟩
      have := ho x _ hx
      rw [e] at this
      unfold binAV at hv
      split at hv
      · rename_i h _; rw [h] at this; simp [VR] at this
      · rename_i h _; rw [h] at this; simp [VR] at this
      · cases hv
  simp [hg, h1]

theorem pure_sound {o : Oper} {ao : AOp} (hc : cOp P ifs o = some ao) (ho : Opds φ env ρ) {v : AV} (hv : evalPure env ao = some v) (w : World) :
    ∃ v', (execOp ρ o).run P w = .ok (.value v') w ∧ VR φ v v' := by
  obtain ⟨dst, op, ty, pos, after, guard⟩ := o
  cases op <;> simp only [cOp] at hc <;> simp only [execOp]
  case move x =>
    obtain ⟨y, hy, rfl⟩ := Option.map_eq_some_iff.1 hc
    exact pure_mov (P := P) ho hy hv w
  case assign x =>
    obtain ⟨y, hy, rfl⟩ := Option.map_eq_some_iff.1 hc
    exact pure_mov (P := P) ho hy hv w
  case pick c a b =>
    split at hc <;> simp at hc
    rename_i c' a' b' h1 h2 h3
    subst hc
    simp only [evalPure] at hv
    split at hv <;> simp at hv
    rename_i t ht
    subst hv
    have e := ho c _ h1
    rw [ht] at e
    have e := vr_bool e
    refine ⟨if t then ρ a else ρ b, by simp [e, asBool], ?_⟩
    cases t
    · exact ho b _ h3
    · exact ho a _ h2
  case alloc e => obtain ⟨y, hy, rfl⟩ := Option.map_eq_some_iff.1 hc; simp [evalPure] at hv
  case box e x => split at hc <;> simp at hc; subst hc; simp [evalPure] at hv
  case build t parts =>
    split at hc <;> simp at hc
    rename_i z ps h1 h2
    subst hc
    simp only [evalPure, Option.map_eq_some_iff] at hv
    obtain ⟨cells, h3, rfl⟩ := hv
    obtain ⟨v', h4, h5⟩ := parts_struct ho h2 h1 h3 w
    exact ⟨v', run_vwrap h4, h5⟩
  case buildSlice t len parts =>
    split at hc
    · split at hc
      · split at hc
        · obtain ⟨y, hy, rfl⟩ := Option.map_eq_some_iff.1 hc; simp [evalPure] at hv
        · cases hc
      · cases hc
    · cases hc
  case insert => cases hc
  case load t a => split at hc <;> simp at hc; subst hc; rename_i s _ _ _; cases s <;> simp [evalPure] at hv
  case store t a x => split at hc <;> simp at hc; subst hc; simp [evalPure] at hv
  case ready => cases hc
  case waits => cases hc
  case nilCheck x =>
    obtain ⟨y, hy, rfl⟩ := Option.map_eq_some_iff.1 hc
    have h := ho x y hy
    simp only [evalPure] at hv
    split at hv <;> simp at hv <;> subst hv <;> rename_i e <;> rw [e] at h
    · have h' := h
      obtain ⟨_, _, _, _, e1⟩ := vr_ptr h
      rw [e1] at h' ⊢
      exact ⟨_, by simp, h'⟩
    · have h' := h
      simp only [VR] at h
      obtain ⟨_, _, e1, _, _⟩ := h
      rw [e1] at h' ⊢
      exact ⟨_, by simp, h'⟩
    · have h' := h
      simp only [VR] at h
      obtain ⟨_, _, _, _, _, e1, _, _⟩ := h
      rw [e1] at h' ⊢
      exact ⟨_, by simp, h'⟩
    · have h' := h
      obtain ⟨_, e1, _⟩ := vr_iface h
      rw [e1] at h' ⊢
      exact ⟨_, by simp, h'⟩
    · rename_i m
      have h' := h
      cases m <;> simp only [VR] at h
      · rw [h] at h' ⊢; exact ⟨_, by simp, h'⟩
      · obtain ⟨_, _, _, e1⟩ := h; rw [e1] at h' ⊢; exact ⟨_, by simp, h'⟩
  case binOp op t x y yt =>
    split at hc
    case h_2 => cases hc
    rename_i x' y' h1 h2
    have hbin : ao = .bin op x' y' → ∃ v', ((do pure (Next.value (← (do eqGuard op t x y (ρ x) (ρ y); binOp op t (ρ x) (ρ y))))) : Sem Next).run P w = .ok (.value v') w ∧ VR φ v v' := by
      rintro rfl
      simp only [evalPure] at hv
      exact pure_bin ho h1 h2 hv w
    split at hc
    · split at hc
      · simp at hc; exact hbin hc.symm
      · simp at hc; exact hbin hc.symm
      · simp at hc; subst hc; simp [evalPure] at hv
      · split at hc <;> simp at hc; subst hc; simp [evalPure] at hv
      · split at hc <;> simp at hc; subst hc; simp [evalPure] at hv
      · simp at hc; subst hc; simp [evalPure] at hv
      · cases hc
    · simp at hc; exact hbin hc.symm
  case unOp op t x =>
    obtain ⟨y, hy, rfl⟩ := Option.map_eq_some_iff.1 hc
    have h := ho x y hy
    cases op with
    | neg =>
      simp only [evalPure] at hv
      split at hv <;> simp at hv
      subst hv; rename_i e; rw [e] at h
      have e1 := vr_int h
      exact ⟨_, by simp [e1, Op.unary, Op.intArith]; rfl, by simp [VR]⟩
    | not =>
      simp only [evalPure] at hv
      split at hv <;> simp at hv
      subst hv; rename_i e; rw [e] at h
      have e1 := vr_bool h
      exact ⟨_, by simp [e1, Op.unary]; rfl, by simp [VR]⟩
    | xor => simp [evalPure] at hv
    | plus => simp [evalPure] at hv
  case convert s d x =>
    split at hc
    · rename_i k0 k x' h1 h2 h3
      simp at hc; subst hc
      have h := ho x _ h3
      simp only [evalPure] at hv
      split at hv <;> simp at hv
      subst hv; rename_i e; rw [e] at h
      have e1 := vr_int h
      exact ⟨_, by simp [convert, run_und w h1, run_und w h2, e1, Conv.intToInt]; rfl, by simp [VR]⟩
    · rename_i x' h1 h2 h3
      simp at hc; subst hc
      have h := ho x _ h3
      simp only [evalPure] at hv
      split at hv <;> simp at hv
      subst hv; rename_i e; rw [e] at h
      have h' := h
      obtain ⟨t', e1, _⟩ := vr_str h
      rw [e1] at h'
      exact ⟨_, by simp [convert, run_und w h1, run_und w h2, e1], h'⟩
    · split at hc <;> simp at hc; subst hc; simp [evalPure] at hv
    · split at hc <;> simp at hc; subst hc; simp [evalPure] at hv
    · cases hc
  case sliceToArrayPointer => cases hc
  case makeInterface t x =>
    split at hc <;> simp at hc
    rename_i d x' hnot h1 h2
    subst hc
    simp [evalPure] at hv; subst hv
    refine ⟨.iface t (ρ x), ?_, by simp only [VR]; exact ⟨_, rfl, ho x _ h2⟩⟩
    cases d <;> simp_all [Instr.makeInterface, run_und w h1]
  case makeFunc fn first captured =>
    split at hc
    case h_2 => cases hc
    rename_i a b h1 h2
    split at hc
    · cases hc
    · rename_i hfn
      simp at hc; subst hc
      simp [evalPure] at hv; subst hv
      refine ⟨.func fn (first.map ρ) (captured.map ρ), by simp [Instr.makeFunc], ?_⟩
      have g1 := cOpds_vr ho h1
      have g2 := cOpds_vr ho h2
      cases fn with
      | yield l => exact absurd rfl (hfn l)
      | _ => simp only [VR]; exact ⟨_, _, rfl, by simpa using g1, by simpa using g2⟩
  case makeMap t r => cases r <;> simp at hc; subst hc; simp [evalPure] at hv
  case makeChan => cases hc
  case makeSlice t l c =>
    split at hc
    · split at hc
      · split at hc <;> simp at hc; subst hc; simp [evalPure] at hv
      · cases hc
    · cases hc
  case slice t x lo hi mx =>
    split at hc
    · rename_i x' lo' hi' h1 h2 h3 h4 h5
      simp at hc; subst hc
      have h := ho x _ h2
      simp only [evalPure] at hv
      split at hv <;> simp at hv
      rename_i s e
      rw [e] at h
      obtain ⟨l, hh, ⟨m, hb⟩, rfl⟩ := hv
      have hmx : mx = none := by cases mx <;> simp_all [cOpdO]
      subst hmx
      obtain ⟨v', g1, g2⟩ := sliceStr_sound (P := P) h1 h hb (optVR_of ho h3) (optVR_of ho h4) w
      exact ⟨v', run_vwrap g1, g2⟩
    · rename_i e x' lo' hi' mx' h1 h2 h3 h4 h5
      simp only [Option.map_eq_some_iff] at hc
      obtain ⟨sz, hs, rfl⟩ := hc
      have h := ho x _ h2
      simp only [evalPure] at hv
      split at hv
      · rename_i len cap es e1
        rw [e1] at h
        simp only [Option.map_eq_some_iff] at hv
        obtain ⟨⟨l, hh, m⟩, hb, rfl⟩ := hv
        obtain ⟨rfl, rfl, e2⟩ := vr_sliceNil h
        rw [e2]
        obtain ⟨v', g1, g2⟩ := sliceNil_sound (P := P) (es := es) h1 hs hb (optVR_of ho h3) (optVR_of ho h4) (optVR_of ho h5) w
        exact ⟨v', run_vwrap g1, g2⟩
      · rename_i p len cap es e1
        rw [e1] at h
        split at hv
        case isFalse => cases hv
        rename_i hes
        subst hes
        simp only [Option.map_eq_some_iff] at hv
        obtain ⟨⟨l, hh, m⟩, hb, rfl⟩ := hv
        obtain ⟨v', g1, g2⟩ := slice_sound (P := P) h1 hs h hb (optVR_of ho h3) (optVR_of ho h4) (optVR_of ho h5) w
        exact ⟨v', run_vwrap g1, g2⟩
      · cases hv
    · rename_i n e x' lo' hi' mx' h1 h2 h3 h4 h5
      simp only [Option.map_eq_some_iff] at hc
      obtain ⟨sz, hs, rfl⟩ := hc
      simp [evalPure] at hv
    · cases hc
  case fieldAddr s x f =>
    split at hc
    case h_2 => cases hc
    rename_i fs x' h1 h2
    split at hc
    case h_2 => cases hc
    rename_i fd h3
    split at hc <;> simp at hc
    rename_i n h4
    subst hc
    have h := ho x _ h2
    simp only [evalPure] at hv
    split at hv <;> simp at hv
    subst hv; rename_i a e; rw [e] at h
    obtain ⟨b, c, N, hφ, e1⟩ := vr_ptr h
    rw [e1]
    exact ⟨_, run_vwrap (fieldAt_sound h1 h3 h4 b (c + a.2) w), by simp only [VR]; exact ⟨b, c, N, hφ, by rw [Nat.add_assoc]⟩⟩
  case field t x f =>
    split at hc
    case h_2 => cases hc
    rename_i fs x' h1 h2
    split at hc
    case h_2 => cases hc
    rename_i fd h3
    simp only [Option.map_eq_some_iff] at hc
    obtain ⟨sz, hs, rfl⟩ := hc
    have h := ho x _ h2
    simp only [evalPure] at hv
    split at hv
    case h_2 => cases hv
    rename_i cs e; rw [e] at h
    obtain ⟨cs', e1, hcs⟩ := vr_agg h
    obtain ⟨v', g1, g2⟩ := part_sound' (P := P) hs hcs hv w
    exact ⟨v', run_vwrap (by simp [Instr.field, run_und w h1, h3, e1, asAgg, g1]), g2⟩
  case indexAddr t x i =>
    split at hc
    · rename_i e x' i' h1 h2 h3
      simp only [Option.map_eq_some_iff] at hc
      obtain ⟨sz, hs, rfl⟩ := hc
      have hx := ho x _ h2
      have hi := ho i _ h3
      simp only [evalPure] at hv
      split at hv
      case h_2 => cases hv
      rename_i a len c es k n e1 e2
      rw [e1] at hx; rw [e2] at hi
      split at hv
      case isFalse => cases hv
      rename_i hb
      obtain ⟨rfl, hb0, hb1⟩ := hb
      simp at hv; subst hv
      obtain ⟨b, co, N, cc, p, hφ, e3, hlc, hcc, hp⟩ := vr_slice hx
      have e4 := vr_int hi
      rcases hp with hp | ⟨rfl, hp⟩
      · omega
      · rw [e3, e4]
        exact ⟨_, run_vwrap (indexAt_slice h1 hs b (co + a.2) len cc k n hb0 hb1 w), by simp only [VR]; exact ⟨b, co, N, hφ, by rw [Nat.add_assoc]⟩⟩
    · rename_i m e x' i' h1 h2 h3
      simp only [Option.map_eq_some_iff] at hc
      obtain ⟨sz, hs, rfl⟩ := hc
      have hx := ho x _ h2
      have hi := ho i _ h3
      simp only [evalPure] at hv
      split at hv
      case h_2 => cases hv
      rename_i a k n e1 e2
      rw [e1] at hx; rw [e2] at hi
      split at hv
      case isFalse => cases hv
      rename_i hb
      simp at hv; subst hv
      obtain ⟨b, c, N, hφ, e3⟩ := vr_ptr hx
      have e4 := vr_int hi
      rw [e3, e4]
      exact ⟨_, run_vwrap (indexAt_arr h1 hs b (c + a.2) k n hb.1 hb.2 w), by simp only [VR]; exact ⟨b, c, N, hφ, by rw [Nat.add_assoc]⟩⟩
    · cases hc
  case index t x i =>
    split at hc
    · rename_i x' i' h1 h2 h3
      simp at hc; subst hc
      have hx := ho x _ h2
      have hi := ho i _ h3
      simp only [evalPure] at hv
      split at hv
      case h_2 => cases hv
      rename_i s k n e1 e2
      rw [e1] at hx; rw [e2] at hi
      split at hv
      case isFalse => cases hv
      rename_i hn
      simp only [Option.map_eq_some_iff] at hv
      obtain ⟨b, hb, rfl⟩ := hv
      obtain ⟨t', e3, rfl⟩ := vr_str hx
      have e4 := vr_int hi
      obtain ⟨u, hu, rfl⟩ := str_index hn hb
      rw [e3, e4]
      exact ⟨.int .u8 u.toNat, by simp [Instr.index, asIntOf, run_und w h1, hn, hu], by simp [byteAV, VR]⟩
    · rename_i n e x' i' h1 h2 h3
      split at hc <;> simp at hc
      rename_i s a h4 h5
      subst hc
      have hx := ho x _ h2
      have hi := ho i _ h3
      simp only [evalPure] at hv
      split at hv
      case h_2 => cases hv
      rename_i cs k q e1 e2
      rw [e1] at hx; rw [e2] at hi
      split at hv
      case isFalse => cases hv
      rename_i hb
      obtain ⟨cs', e3, hcs⟩ := vr_agg hx
      have e4 := vr_int hi
      obtain ⟨v', g1, g2⟩ := part_sound (P := P) h4 h5 hcs hv w
      rw [e3, e4]
      exact ⟨v', run_vwrap (by simp [Instr.index, asIntOf, run_und w h1, hb, run_size w h4, g1]), g2⟩
    · cases hc
  case lookup t m k ok =>
    split at hc
    · split at hc <;> simp at hc; subst hc; simp [evalPure] at hv
    · cases hc
  case mapUpdate => split at hc <;> simp at hc; subst hc; simp [evalPure] at hv
  case mapEntry =>
    split at hc
    · split at hc <;> simp at hc; subst hc; simp [evalPure] at hv
    · cases hc
  case entryStore => split at hc <;> simp at hc; subst hc; simp [evalPure] at hv
  case range => split at hc <;> simp at hc <;> subst hc <;> simp [evalPure] at hv
  case next it isS => obtain ⟨y, hy, rfl⟩ := Option.map_eq_some_iff.1 hc; cases isS <;> simp [evalPure] at hv
  case entry => obtain ⟨y, hy, rfl⟩ := Option.map_eq_some_iff.1 hc; simp [evalPure] at hv
  case typeAssert x xt t ok =>
    split at hc
    · rename_i want x' h1 h2
      split at hc <;> simp at hc
      rename_i hz
      subst hc
      obtain ⟨v', g1, g2⟩ := typeAssert_iface (P := P) (xt := xt) h1 hz (ho x _ h2) hv w
      exact ⟨v', run_vwrap g1, g2⟩
    · rename_i d x' hnot h1 h2
      obtain ⟨z, hz, rfl⟩ := Option.map_eq_some_iff.1 hc
      obtain ⟨v', g1, g2⟩ := typeAssert_to (P := P) (xt := xt) h1 (fun ms e => hnot ms e) hz (ho x _ h2) hv w
      exact ⟨v', run_vwrap g1, g2⟩
    · cases hc
  case extract x i =>
    obtain ⟨y, hy, rfl⟩ := Option.map_eq_some_iff.1 hc
    have h := ho x y hy
    simp only [evalPure] at hv
    split at hv
    case h_2 => cases hv
    rename_i vs e; rw [e] at h
    obtain ⟨vs', e1, hvs⟩ := vr_tuple h
    obtain ⟨u, hu, hvr⟩ := hvs.get hv
    exact ⟨u, by simp [e1, Instr.extract, show vs'[i]? = some u by simpa using hu], hvr⟩
  case call c =>
    split at hc
    · split at hc <;> simp at hc; subst hc; simp [evalPure] at hv
    · split at hc <;> simp at hc; subst hc; simp [evalPure] at hv
    · rename_i b hb
      have key := fun cs => builtin_sound ho hc hv ty cs w
      simp only [resolve, hb, Sem.run_bind, Sem.run_pure, Result.andThen_ok, invoke]
      exact key _
  all_goals cases hc
end
end Go.Proofs.YtjihmonajekomaaGreatDoor.Ax
