/- Append, copy, clear; every operation that changes memory, the whole. Conditions: as each theorem states. -/
import Derived.Test.YtjihmonajekomaaGreatDoorAx14
namespace Go.Proofs.YtjihmonajekomaaGreatDoor.Ax
open Go Go.RowKit
set_option linter.unusedVariables false

section
variable {P : Program} {ifs : List TypeId} {φ : Emb} {w0 w : World} {h h' : AH} {env : List AV} {ρ : Operand → Value}

theorem cellsAt_len {a : Nat × Nat} {k : Nat} {cs : List AV} (h1 : h.cellsAt a k = some cs) : cs.length = k := by
  unfold AH.cellsAt at h1
  split at h1
  · exact (takeSome_spec _ _ _ h1).1
  · cases h1

theorem loadSlice (hr : Rel P ifs φ w0 h w) {a : Nat × Nat} {b co N k : Nat} (hφ : φ a.1 = some (b, co, N)) {p : Addr} (hp : k = 0 ∨ p = ⟨b, co + a.2, none⟩) {cs : List AV} (hc : h.cellsAt a k = some cs) :
    ∃ us : Array Value, (loadCells p k).run P w = .ok us w ∧ VRs φ cs us.toList ∧ us.size = k ∧ (∀ (j : Nat) (v : Value), us[j]? = some v → w.cell? ⟨b, co + a.2 + j, none⟩ = some v) := by
  obtain ⟨us, h1, h2, h3⟩ := hr.load (i := a.1) (o := a.2) hφ hc
  refine ⟨us.toArray, ?_, by simpa using h1, by simpa using h2, fun j v hj => h3 j v (by simpa using hj)⟩
  rcases hp with rfl | rfl
  · have : us = [] := List.length_eq_zero_iff.1 h2
    subst this
    exact run_loadCells_list w p [] (by simp)
  · have := run_loadCells_list (P := P) w ⟨b, co + a.2, none⟩ us (fun j v hj => by rw [add_plain]; exact h3 j v hj)
    rw [h2] at this
    exact this

theorem bytes_vr (φ : Emb) (l : List UInt8) : VRs φ ((l.map UInt8.toNat).map byteAV) (l.map fun b => Value.int .u8 b.toNat) := by
  refine VRs.iff.2 ⟨by simp, fun j a v ha hv => ?_⟩
  simp only [List.getElem?_map, Option.map_eq_some_iff] at ha hv
  obtain ⟨n, ⟨b, hb, rfl⟩, rfl⟩ := ha
  obtain ⟨b', hb', rfl⟩ := hv
  rw [hb] at hb'; simp at hb'; subst hb'
  simp [byteAV, VR]

theorem taken_sound (hr : Rel P ifs φ w0 h w) {size : Nat} {cut : Nat → Nat} (hcut : ∀ n, cut n ≤ n) {x : AV} {x' : Value} (hx : VR φ x x') {n : Nat} {new : List AV} (ht : taken h size cut x = some (n, new)) :
    ∃ m us, (∀ w, (Builtin.lenOf x').run P w = .ok m w) ∧ n = cut m ∧ (Builtin.firstCells size n x').run P w = .ok us w ∧ VRs φ new us.toList ∧ us.size = n * size := by
  unfold taken at ht
  split at ht
  · simp at ht; obtain ⟨rfl, rfl⟩ := ht
    obtain ⟨_, _, rfl⟩ := vr_sliceNil hx
    exact ⟨0, #[], by simp [Builtin.lenOf], by have := hcut 0; omega, by simp [Builtin.firstCells], VRs.nil, by simp⟩
  · rename_i b m c es'
    split at ht
    case isFalse => cases ht
    rename_i he
    simp only [Option.map_eq_some_iff, Prod.mk.injEq] at ht
    obtain ⟨cs, hc, rfl, rfl⟩ := ht
    obtain ⟨bk, co, N, cc, p, hφ, rfl, h1, h2, h3⟩ := vr_slice hx
    obtain ⟨us, g1, g2, g3, _⟩ := loadSlice (P := P) (p := p) hr hφ (by
      rcases h3 with h3 | h3
      · have h4 := hcut m
        have : cut m = 0 := by omega
        exact .inl (by rw [this]; simp)
      · exact .inr h3.1) hc
    exact ⟨m, us, by simp [Builtin.lenOf], rfl, by simp [Builtin.firstCells, g1], g2, g3⟩
  · rename_i t
    split at ht
    case isFalse => cases ht
    rename_i he
    subst he
    simp only [Option.some.injEq, Prod.mk.injEq] at ht
    obtain ⟨rfl, rfl⟩ := ht
    obtain ⟨s, rfl, rfl⟩ := vr_str hx
    have hl : (s.data.toList.map UInt8.toNat).length = s.size := by simp
    rw [hl]
    refine ⟨s.size, ((s.extract 0 (cut s.size)).data.map fun b => .int .u8 b.toNat), by simp [Builtin.lenOf], rfl, by simp [Builtin.firstCells], ?_, ?_⟩
    · have := bytes_vr φ (s.data.toList.take (cut s.size))
      have e1 : (s.extract 0 (cut s.size)).data.toList = s.data.toList.take (cut s.size) := by simp [ByteArray.data_extract]
      rw [Array.toList_map, e1, ← List.map_take]
      exact this
    · have := hcut s.size
      have e2 : s.data.size = s.size := rfl
      simp [ByteArray.data_extract]; omega
  · cases ht

theorem zc_size (z : Array Value) (n : Nat) : (Builtin.zeroCells z n).size = n * z.size := by simp [Builtin.zeroCells]

theorem append_sound (hr : Rel P ifs φ w0 h w) {t u e ty : TypeId} (ht : P.underlying t = some (.slice e)) {d : TypeDesc} (hu : P.underlying u = some d) (hd : ∀ k, d ≠ .int k) {i : TypeInfo} (hi : P.info? e = some i) {z : List AV} (hz : zeroCellsOf P e = some z) (hzl : z.length = i.size) (hs1 : 1 ≤ i.size)
    (hb1 : 1 ≤ i.bytes) {s x : AOpd} {s' x' : Value} (hs : VR φ (s.ev env) s') (hx : VR φ (x.ev env) x') {mt : Methods} {call : Callee} {v : AV} (hv : evalStrong mt call env h (.append e i.size i.bytes s x) = some (v, h')) :
    Strong P ifs φ w0 w h' v (do pure (Next.value (← Builtin.append_ #[t, u] ty #[s', x']))) := by
  obtain ⟨i', zv, q1, q2, q3, q4⟩ := zeroCells_spec hz φ
  rw [hi] at q1; simp at q1; subst q1
  have hzv : zv.cells.size = i.size := by have := q3.len; simp at this; omega
  have hni : (match d with | .int _ => true | _ => false) = false := by cases d <;> first | rfl | exact absurd rfl (hd _)
  simp only [evalStrong] at hv
  split at hv
  case h_2 => cases hv
  rename_i base len cap es exs
  rw [exs] at hs
  simp only [Option.bind_eq_some_iff] at hv
  obtain ⟨⟨n, new⟩, htk, hv'⟩ := hv
  simp only [appendTo] at hv'
  obtain ⟨m, us0, hlen, hm1, hfirst0, hvr0, hus0⟩ := taken_sound (P := P) hr (fun n => Nat.le_refl n) hx htk
  obtain ⟨m2, us, hlen2, hm2, hfirst, hvr, hus⟩ := taken_sound (P := P) hr.drew (fun n => Nat.le_refl n) hx htk
  obtain rfl : m = n := hm1.symm
  split at hv'
  · rename_i hn0
    subst hn0
    simp only [Option.some.injEq, Prod.mk.injEq] at hv'
    obtain ⟨rfl, rfl⟩ := hv'
    have hus0' : us0 = #[] := by apply Array.eq_empty_of_size_eq_zero; omega
    subst hus0'
    refine ⟨φ, w, .value s', ?_, hs, hr, Stp.refl _ _⟩
    cases base with
    | none =>
      obtain ⟨rfl, rfl, rfl⟩ := vr_sliceNil hs
      simp [Builtin.append_, run_und w ht, run_und w hu, hni, run_size w (show szOf P e = some i.size by simp [szOf, hi]), hlen, hfirst0]
    | some a =>
      obtain ⟨bk, co, N, cc, p, hφ, rfl, h1, h2, h3⟩ := vr_slice hs
      have : len ≤ cc := by omega
      simp [Builtin.append_, run_und w ht, run_und w hu, hni, run_size w (show szOf P e = some i.size by simp [szOf, hi]), hlen, hfirst0, this, storeCells]
  rename_i hn0
  split at hv'
  case isFalse => cases hv'
  rename_i hroom
  obtain ⟨hroom, hmax⟩ := hroom
  have h63 : ¬ (9223372036854775807 < ((len : Int) + (m : Int))) := by unfold maxText at hmax; omega
  have hneed : ∀ c, c < len + m → ¬ (281474976710656 < Builtin.nextslicecap (len + m) c * i.bytes) := fun c hc => by
    have := growslice_fits (need := len + m) (old := c) (bytes := i.bytes) hc (by unfold room at hroom; exact hroom)
    omega
  have hszE : (sizeOf e).run P = fun w => .ok i.size w := by funext w; exact run_size w (by simp [szOf, hi])
  cases base with
  | none =>
    obtain ⟨rfl, rfl, rfl⟩ := vr_sliceNil hs
    dsimp only at hv'
    split at hv'
    case isFalse => cases hv'
    simp only [Option.some.injEq, Prod.mk.injEq] at hv'
    obtain ⟨rfl, rfl⟩ := hv'
    have hge := grownCap_ge w m 0 e
    obtain ⟨k1, k2⟩ := hr.drew.rowPart (us := us ++ Builtin.zeroCells zv.cells (grownCap w m 0 e - m)) hvr (fun j v hj => by
      have hlt : j < us.size := by have := (List.getElem?_eq_some_iff.1 hj).1; simpa using this
      rw [Array.getElem?_append_left hlt]; simpa using hj) e (fr := (0, 0)) (pl := true) (fun j _ => by omega) (fun _ => rfl) (by rw [Array.size_append]; have := hvr.len; simp at this; omega)
    refine ⟨_, _, .value (.slice (some ⟨w.heap.size, 0, none⟩) m (grownCap w m 0 e)), ?_, ?_, k1, Stp.trans (Stp.drawn (w := w) (w' := w.drew) rfl) k2⟩
    · have h1 := hneed 0 (by omega)
      simp only [Nat.zero_add] at h1
      have h2 : ¬ (9223372036854775807 < (m : Int)) := by simpa using h63
      have h3 : m ≠ 0 := by omega
      have hb0 : i.bytes ≠ 0 := by omega
      simp [Builtin.append_, run_und w ht, run_und w hu, hszE, run_zeroV _ hi q2, run_tinfo w hi, run_tinfo w.drew hi, hlen, h3, h2, h1, hb0, Question.forced, hfirst, newRow, grownCap, run_firstCells_none]
    · refine vr_newSlice _ _ _ _ _ _ _ _ (Nat.le_refl _) hge ?_
      rw [Array.size_append, zc_size, hzv, hus, ← Nat.add_mul]
      exact Nat.mul_le_mul_right _ (by omega)
  | some a =>
    dsimp only at hv'
    split at hv'
    case isFalse => cases hv'
    rename_i hes
    subst hes
    obtain ⟨bk, co, N, cc, p, hφ, rfl, c1, c2, c3⟩ := vr_slice hs
    have hbz : i.bytes ≠ 0 := by omega
    split at hv'
    · rename_i h1' hsto
      split at hsto
      case isFalse => cases hsto
      rename_i hfits
      simp only [Option.some.injEq, Prod.mk.injEq] at hv'
      obtain ⟨rfl, rfl⟩ := hv'
      have hcc : cc ≠ 0 := by omega
      obtain ⟨rfl, hN⟩ := c3.resolve_left hcc
      have hin : len + m ≤ cc := by omega
      obtain ⟨g1, g2, g3, g4, g5⟩ := hr.store (us := us0.toList) (i := a.1) (o := a.2 + len * i.size) hφ hsto hvr0
      have hst := run_storeCells_cells (P := P) bk (co + a.2 + len * i.size) us0.toList 0 w (by simpa [Nat.add_assoc] using g1) (by simpa [Nat.add_assoc] using g2) g3
      simp only [Nat.add_zero] at hst
      rw [← Nat.add_assoc] at g4 g5
      refine ⟨_, _, .value (.slice (some ⟨bk, co + a.2, none⟩) (len + m) cc), ?_, ?_, g4, g5⟩
      · simp [Builtin.append_, run_und w ht, run_und w hu, hszE, hlen, hin, hfirst0, add_plain, hst]
      · simp only [Out, VR]
        exact ⟨bk, co, N, cc, _, hφ, rfl, hfits, c2, .inr ⟨rfl, hN⟩⟩
    simp only [Option.map_eq_some_iff, Prod.mk.injEq] at hv'
    obtain ⟨h1', hap, rfl, rfl⟩ := hv'
    by_cases hin : len + m ≤ cc
    · have hcc : cc ≠ 0 := by omega
      obtain ⟨rfl, hN⟩ := c3.resolve_left hcc
      have hle : (len + m) * i.size ≤ cc * i.size := Nat.mul_le_mul_right _ hin
      obtain ⟨g1, g2, g3, g4, g5⟩ := hr.append_in (us := us0.toList) (i := a.1) (o := a.2) hφ hap hvr0 (by rw [Array.length_toList, hus0]; rw [Nat.add_mul] at hle; omega)
      have hst := run_storeCells_cells (P := P) bk (co + a.2 + len * i.size) us0.toList 0 w (by simpa using g1) (by simpa using g2) g3
      simp only [Nat.add_zero] at hst
      refine ⟨_, _, .value (.slice (some ⟨bk, co + a.2, none⟩) (len + m) cc), ?_, ?_, g4, g5⟩
      · simp [Builtin.append_, run_und w ht, run_und w hu, hszE, hlen, hin, hfirst0, add_plain, hst]
      · simp only [Out, VR]
        exact ⟨bk, co + a.2, N, cc, _, upd_same _ _ _, rfl, Nat.le_refl _, hin, .inr ⟨by simp, by omega⟩⟩
    · have hgt : cc < len + m := by omega
      have hge := grownCap_ge w (len + m) cc e
      obtain ⟨cs, fam, base, sh, pl, old, hget, hold, hflat, hnext, hgets⟩ := appendAt_get (i := a.1) (o := a.2) hap
      have hcl : h.cellsAt a (len * i.size) = some old := by unfold AH.cellsAt; rw [hget]; exact hold
      obtain ⟨uo, l1, l2, l3, l4⟩ := loadSlice (P := P) (p := p) hr.drew hφ (by
        rcases c3 with c3 | c3
        · have : len = 0 := by omega
          exact .inl (by rw [this]; simp)
        · exact .inr c3.1) hcl
      have hC2 : ∀ (j : Nat) (v : Value), us.toList[j]? = some v → (uo ++ (us ++ Builtin.zeroCells zv.cells (grownCap w (len + m) cc e - (len + m))))[len * i.size + j]? = some v := by
        intro j v hj
        have hlt : j < us.size := by have := (List.getElem?_eq_some_iff.1 hj).1; simpa using this
        rw [Array.getElem?_append_right (by omega), l3, Nat.add_sub_cancel_left, Array.getElem?_append_left hlt]; simpa using hj
      have hC1 : ∀ j, j < len * i.size → ∀ v, w.drew.cell? ⟨bk, co + a.2 + j, none⟩ = some v → (uo ++ (us ++ Builtin.zeroCells zv.cells (grownCap w (len + m) cc e - (len + m))))[j]? = some v := by
        intro j hj v hv
        have hlt : j < uo.size := by omega
        rw [Array.getElem?_append_left hlt, Array.getElem?_eq_getElem hlt, ← hv]
        exact (l4 j _ (Array.getElem?_eq_getElem hlt)).symm
      obtain ⟨g4, g5⟩ := hr.drew.append_new (us := us.toList) (i := a.1) (o := a.2) hφ hap hvr hC1 hC2 (by simp [l3])
      refine ⟨_, _, .value (.slice (some ⟨w.heap.size, 0, none⟩) (len + m) (grownCap w (len + m) cc e)), ?_, ?_, g4, Stp.trans (Stp.drawn (w := w) (w' := w.drew) rfl) g5⟩
      · have h1 := hneed cc hgt
        have hfo : (Builtin.firstCells i.size len (.slice (some p) len cc)).run P w.drew = .ok uo w.drew := by simpa [Builtin.firstCells] using l1
        simp [Builtin.append_, run_und w ht, run_und w hu, hszE, run_zeroV _ hi q2, run_tinfo w hi, run_tinfo w.drew hi, hlen, hin, h63, h1, hbz, Question.forced, hfirst, newRow, grownCap, hfo]
      · refine vr_newSlice _ _ _ _ _ _ _ _ (Nat.le_refl _) hge ?_
        rw [Array.size_append, Array.size_append, zc_size, hzv, hus, l3, ← Nat.add_mul, ← Nat.add_mul]
        exact Nat.mul_le_mul_right _ (by omega)

theorem copy_sound (hr : Rel P ifs φ w0 h w) {t u e ty : TypeId} (ht : P.underlying t = some (.slice e)) {size : Nat} (hsz : szOf P e = some size) {d x : AOpd} {d' x' : Value} (hd : VR φ (d.ev env) d') (hx : VR φ (x.ev env) x') {mt : Methods} {call : Callee} {v : AV}
    (hv : evalStrong mt call env h (.copy size d x) = some (v, h')) : Strong P ifs φ w0 w h' v (do pure (Next.value (← Builtin.copy_ #[t, u] ty #[d', x']))) := by
  simp only [evalStrong] at hv
  split at hv
  case h_2 => cases hv
  rename_i base dlen dcap es exd
  rw [exd] at hd
  simp only [Option.bind_eq_some_iff] at hv
  obtain ⟨⟨n, new⟩, htk, hv'⟩ := hv
  obtain ⟨m, us, hlen, rfl, hfirst, hvr, hus⟩ := taken_sound (P := P) hr (fun n => Nat.min_le_left n dlen) hx htk
  simp only [copyTo] at hv'
  have hval : ∀ {φ : Emb} (k : Nat), Out φ (.int .i64 k) (.value (goInt k)) := by intro φ k; simp [Out, VR, goInt]
  cases base with
  | none =>
    obtain ⟨rfl, rfl, rfl⟩ := vr_sliceNil hd
    simp only [Option.some.injEq, Prod.mk.injEq] at hv'
    obtain ⟨rfl, rfl⟩ := hv'
    refine ⟨_, _, .value (goInt ((min m 0 : Nat) : Int)), ?_, hval _, hr, Stp.refl _ _⟩
    simp at hfirst
    simp [Builtin.copy_, run_und w ht, run_size w hsz, hlen, hfirst]
  | some a =>
    obtain ⟨bk, co, N, cc, p, hφ, rfl, c1, c2, c3⟩ := vr_slice hd
    dsimp only at hv'
    split at hv'
    · rename_i hn0
      simp only [Option.some.injEq, Prod.mk.injEq] at hv'
      obtain ⟨rfl, rfl⟩ := hv'
      have hus0 : us = #[] := by apply Array.eq_empty_of_size_eq_zero; rw [hus, hn0]; simp
      subst hus0
      have hn0' : Nat.min m dlen = 0 := hn0
      refine ⟨_, _, .value (goInt 0), ?_, hval 0, hr, Stp.refl _ _⟩
      rw [hn0] at hfirst
      simp [Builtin.copy_, run_und w ht, run_size w hsz, hlen, hn0', hfirst, storeCells]
    rename_i hn0
    split at hv'
    · cases hv'
    rename_i hes
    simp only [Option.map_eq_some_iff, Prod.mk.injEq] at hv'
    obtain ⟨h1', hst, rfl, rfl⟩ := hv'
    have hcc : cc ≠ 0 := by omega
    obtain ⟨rfl, hN⟩ := c3.resolve_left hcc
    obtain ⟨g1, g2, g3, g4, g5⟩ := hr.store (us := us.toList) (i := a.1) (o := a.2) hφ hst hvr
    have hrun := run_storeCells_cells (P := P) bk (co + a.2) us.toList 0 w (by simpa using g1) (by simpa using g2) g3
    simp only [Nat.add_zero] at hrun
    refine ⟨_, _, .value (goInt ((min m dlen : Nat) : Int)), ?_, hval _, g4, g5⟩
    have hf2 : (Builtin.firstCells size (Nat.min m dlen) x').run P w = .ok us w := hfirst
    simp [Builtin.copy_, run_und w ht, run_size w hsz, hlen, hf2, hrun]

theorem clear_sound (hr : Rel P ifs φ w0 h w) {t e ty : TypeId} (ht : P.underlying t = some (.slice e)) {z : List AV} (hz : zeroCellsOf P e = some z) {x : AOpd} {x' : Value} (hx : VR φ (x.ev env) x') {mt : Methods} {call : Callee} {v : AV}
    (hv : evalStrong mt call env h (.clearSlice z x) = some (v, h')) : Strong P ifs φ w0 w h' v (do pure (Next.value (← Builtin.clear_ #[t] ty #[x']))) := by
  obtain ⟨i, zv, q1, q2, q3, q4⟩ := zeroCells_spec hz φ
  have hund : ∀ {φ : Emb}, Out φ .undef (.value (.tuple #[])) := by
    intro φ
    simp only [Out, AV.undef, VR]; exact ⟨_, rfl, VRs.nil⟩
  simp only [evalStrong] at hv
  split at hv
  · rename_i ex
    rw [ex] at hx
    obtain ⟨_, _, rfl⟩ := vr_sliceNil hx
    simp only [Option.some.injEq, Prod.mk.injEq] at hv
    obtain ⟨rfl, rfl⟩ := hv
    exact ⟨_, _, .value (.tuple #[]), by simp [Builtin.clear_, run_und w ht], hund, hr, Stp.refl _ _⟩
  · rename_i a n cap es ex
    rw [ex] at hx
    obtain ⟨bk, co, N, cc, p, hφ, rfl, c1, c2, c3⟩ := vr_slice hx
    split at hv
    · rename_i hn
      subst hn
      simp only [Option.some.injEq, Prod.mk.injEq] at hv
      obtain ⟨rfl, rfl⟩ := hv
      exact ⟨_, _, .value (.tuple #[]), by simp [Builtin.clear_, run_und w ht], hund, hr, Stp.refl _ _⟩
    rename_i hn
    split at hv
    · cases hv
    simp only [Option.map_eq_some_iff, Prod.mk.injEq] at hv
    obtain ⟨h1', hst, rfl, rfl⟩ := hv
    have hcc : cc ≠ 0 := by omega
    obtain ⟨rfl, hN⟩ := c3.resolve_left hcc
    obtain ⟨g1, g2, g3, g4, g5⟩ := hr.store (i := a.1) (o := a.2) hφ hst (copies_vr q3 n)
    have hrun := run_storeCells_cells (P := P) bk (co + a.2) _ 0 w (by simpa using g1) (by simpa using g2) g3
    simp only [Nat.add_zero] at hrun
    refine ⟨_, _, .value (.tuple #[]), ?_, hund, g4, g5⟩
    obtain ⟨k, rfl⟩ : ∃ k, n = k + 1 := ⟨n - 1, by omega⟩
    simp only [Array.toList_map, Array.toList_range] at hrun
    simp [Builtin.clear_, run_und w ht, run_zeroV w q1 q2, Builtin.zeroCells, hrun]
  · cases hv

/-- Is it a call? -/
def AOp.isCall : AOp → Bool
  | .call .. => true
  | .invoke .. => true
  | _ => false


theorem strong_sound (hr : Rel P ifs φ w0 h w) {o : Oper} {ao : AOp} (hc : cOp P ifs o = some ao) (ho : Opds φ env ρ) {mt : Methods} {call : Callee} (hnc : ao.isCall = false) {v : AV} (hv : evalStrong mt call env h ao = some (v, h')) :
    Strong P ifs φ w0 w h' v (execOp ρ o) := by
  obtain ⟨dst, op, ty, pos, after, guard⟩ := o
  cases op <;> simp only [cOp] at hc <;> simp only [execOp]
  case alloc e =>
    obtain ⟨z, hz, rfl⟩ := Option.map_eq_some_iff.1 hc
    simp only [evalStrong, Option.some.injEq, Prod.mk.injEq] at hv
    obtain ⟨rfl, rfl⟩ := hv
    exact alloc_sound hr hz
  case box e x =>
    split at hc <;> simp at hc
    rename_i s x' h1 h2
    subst hc
    simp only [evalStrong] at hv
    split at hv <;> simp only [Option.some.injEq, Prod.mk.injEq, reduceCtorEq] at hv
    obtain ⟨rfl, rfl⟩ := hv
    exact box_sound hr (ho x _ h2)
  case buildSlice t len parts =>
    split at hc
    case h_2 => cases hc
    rename_i e h1
    split at hc
    case h_2 => cases hc
    rename_i z s h2 h3
    split at hc
    case isFalse => cases hc
    rename_i hb
    obtain ⟨ps, hps, rfl⟩ := Option.map_eq_some_iff.1 hc
    simp only [evalStrong, Option.bind_eq_some_iff] at hv
    obtain ⟨cs, hf, hv⟩ := hv
    split at hv
    case isFalse => cases hv
    simp only [Option.some.injEq, Prod.mk.injEq] at hv
    obtain ⟨rfl, rfl⟩ := hv
    have hp := parts_of (φ := φ) (env := env) (ρ := ρ) ho (place := fun i => some (i * s, s)) (fun p y hy => by
      obtain ⟨x, hx, rfl⟩ := Option.map_eq_some_iff.1 hy
      exact ⟨rfl, hx⟩) hps
    have := buildSlice_sound hr h1 h2 h3 hb.1 hb.2.1 hb.2.2 hp hf
    have e : (List.map (fun p => (p.fst, ρ p.snd)) parts.toList).toArray = Array.map (fun x => (x.fst, ρ x.snd)) parts := by apply Array.ext'; simp
    rw [e] at this
    exact this
  case store t a x =>
    split at hc <;> simp at hc
    rename_i s a' x' h1 h2 h3
    subst hc
    simp only [evalStrong] at hv
    split at hv
    case h_2 => cases hv
    rename_i p ea
    split at hv
    case isFalse => cases hv
    rename_i hsz
    simp only [Option.map_eq_some_iff, Prod.mk.injEq] at hv
    obtain ⟨h1', hst, rfl, rfl⟩ := hv
    have hp := ho a _ h2
    rw [ea] at hp
    exact store_sound hr h1 hp (ho x _ h3) hsz hst
  case convert s d x =>
    split at hc
    · ((repeat' split at hc) <;> first | (cases hc; done) | (simp at hc; done) | (simp at hc; subst hc; first | (simp [evalStrong] at hv; done) | (simp [AOp.isCall] at hnc; done)) | (obtain ⟨_, _, rfl⟩ := Option.map_eq_some_iff.1 hc; simp [evalStrong] at hv; done))
    · ((repeat' split at hc) <;> first | (cases hc; done) | (simp at hc; done) | (simp at hc; subst hc; first | (simp [evalStrong] at hv; done) | (simp [AOp.isCall] at hnc; done)) | (obtain ⟨_, _, rfl⟩ := Option.map_eq_some_iff.1 hc; simp [evalStrong] at hv; done))
    · rename_i e x' h1 h2 h3
      split at hc <;> simp at hc
      rename_i h4 h5
      subst hc
      simp only [evalStrong] at hv
      split at hv <;> simp only [Option.some.injEq, Prod.mk.injEq, reduceCtorEq] at hv
      rename_i l el
      obtain ⟨rfl, rfl⟩ := hv
      have hx := ho x _ h3
      rw [el] at hx
      exact toBytes_sound hr h1 h2 h4 hx
    · ((repeat' split at hc) <;> first | (cases hc; done) | (simp at hc; done) | (simp at hc; subst hc; first | (simp [evalStrong] at hv; done) | (simp [AOp.isCall] at hnc; done)) | (obtain ⟨_, _, rfl⟩ := Option.map_eq_some_iff.1 hc; simp [evalStrong] at hv; done))
    · cases hc
  case makeMap t r =>
    cases r <;> simp at hc
    subst hc
    simp only [evalStrong, Option.some.injEq, Prod.mk.injEq] at hv
    obtain ⟨rfl, rfl⟩ := hv
    exact mkMap_sound hr t
  case makeSlice t l c =>
    split at hc
    case h_2 => cases hc
    rename_i e h1
    split at hc
    case h_2 => cases hc
    rename_i i z l' c' h2 h3 h4 h5
    split at hc <;> simp at hc
    rename_i hb
    subst hc
    simp only [evalStrong] at hv
    split at hv
    case h_2 => cases hv
    rename_i ln cn el ec
    split at hv
    case isFalse => cases hv
    rename_i hb2
    simp only [Option.some.injEq, Prod.mk.injEq] at hv
    obtain ⟨rfl, rfl⟩ := hv
    have hl := ho l _ h4
    have hcv := ho c _ h5
    rw [el] at hl
    rw [ec] at hcv
    exact mkSlice_sound hr h1 h2 h3 hb.1 hb.2 hl hcv ⟨hb2.1, hb2.2.1, hb2.2.2.1⟩ (by have := hb2.2.2.2; unfold maxText at this; omega)
  case mapUpdate t m k x =>
    split at hc <;> simp at hc
    rename_i ke m' k' x' h1 h2 h3 h4
    subst hc
    have hu : ∃ kt et, P.underlying t = some (.map kt et) := by
      unfold keyTy at h1
      split at h1
      · exact ⟨_, _, by assumption⟩
      · cases h1
    obtain ⟨kt, et, hu⟩ := hu
    exact mapUpd_sound hr hu h1 (ho m _ h2) (ho k _ h3) (ho x _ h4) hv
  case mapEntry t m k =>
    split at hc
    case h_2 => cases hc
    rename_i kt et h0
    split at hc <;> simp at hc
    rename_i ke z m' k' h1 h2 h3 h4
    subst hc
    exact mapEntry_sound hr h0 h1 h2 (ho m _ h3) (ho k _ h4) hv
  case entryStore t m s x =>
    split at hc <;> simp at hc
    rename_i m' s' x' h1 h2 h3
    subst hc
    exact entryStore_sound hr t (ho m _ h1) (ho s _ h2) (ho x _ h3) hv
  case range t x =>
    split at hc <;> simp at hc
    · rename_i x' h1 h2
      subst hc
      simp only [evalStrong] at hv
      split at hv <;> simp only [Option.some.injEq, Prod.mk.injEq, reduceCtorEq] at hv
      rename_i s es
      obtain ⟨rfl, rfl⟩ := hv
      have hx := ho x _ h2
      rw [es] at hx
      exact rangeStr_sound hr h1 hx
    · rename_i k e x' h1 h2
      subst hc
      exact rangeMap_sound hr h1 (ho x _ h2) hv
  case next it isS =>
    obtain ⟨y, hy, rfl⟩ := Option.map_eq_some_iff.1 hc
    cases isS with
    | true => exact nextStr_sound hr ty (ho it _ hy) (by simpa using hv)
    | false => exact nextMap_sound hr ty (ho it _ hy) (by simpa using hv)
  case entry it =>
    obtain ⟨y, hy, rfl⟩ := Option.map_eq_some_iff.1 hc
    exact entry_sound hr (ho it _ hy) hv
  case load t a => split at hc <;> simp at hc; subst hc; simp [evalStrong] at hv
  case call c =>
    split at hc
    · ((repeat' split at hc) <;> first | (cases hc; done) | (simp at hc; done) | (simp at hc; subst hc; first | (simp [evalStrong] at hv; done) | (simp [AOp.isCall] at hnc; done)) | (obtain ⟨_, _, rfl⟩ := Option.map_eq_some_iff.1 hc; simp [evalStrong] at hv; done))
    · ((repeat' split at hc) <;> first | (cases hc; done) | (simp at hc; done) | (simp at hc; subst hc; first | (simp [evalStrong] at hv; done) | (simp [AOp.isCall] at hnc; done)) | (obtain ⟨_, _, rfl⟩ := Option.map_eq_some_iff.1 hc; simp [evalStrong] at hv; done))
    · rename_i b hb
      simp only [resolve, hb]
      obtain ⟨cal, args, ats⟩ := c
      obtain ⟨args⟩ := args
      obtain ⟨ats⟩ := ats
      simp only at hb hc
      unfold cBuiltin at hc
      simp only at hc
      have lift : ∀ {s : Sem Next} {d : Deferred} (f : Deferred → Sem Next), f d = s → Strong P ifs φ w0 w h' v s → Strong P ifs φ w0 w h' v (do let d ← (pure d : Sem Deferred); f d) := by
        intro s d f e hs
        obtain ⟨φ', w', n, g1, g2⟩ := hs
        exact ⟨φ', w', n, by simp only [Sem.run_bind, Sem.run_pure, Result.andThen_ok, e]; exact g1, g2⟩
      split at hc
      · ((repeat' split at hc) <;> first | (cases hc; done) | (simp at hc; done) | (simp at hc; subst hc; first | (simp [evalStrong] at hv; done) | (simp [AOp.isCall] at hnc; done)) | (obtain ⟨_, _, rfl⟩ := Option.map_eq_some_iff.1 hc; simp [evalStrong] at hv; done))
      · rename_i t u s x
        split at hc
        · cases hc
        · rename_i e d s' x' hnot h1 h2 h3 h4
          split at hc
          case h_2 => cases hc
          rename_i i z h5 h6
          split at hc <;> simp at hc
          rename_i hb2
          subst hc
          refine lift _ ?_ (append_sound (ty := ty) hr h1 h2 (fun k e => hnot _ e) h5 h6 hb2.1 hb2.2.1 hb2.2.2 (ho s _ h3) (ho x _ h4) hv)
          simp [invoke, builtin]
        · cases hc
      · rename_i t u d x
        split at hc
        case h_2 => cases hc
        rename_i e d' x' h1 h2 h3
        obtain ⟨sz, hs, rfl⟩ := Option.map_eq_some_iff.1 hc
        refine lift _ ?_ (copy_sound (ty := ty) (u := u) hr h1 hs (ho d _ h2) (ho x _ h3) hv)
        simp [invoke, builtin]
      · rename_i t u m k
        split at hc <;> simp at hc
        rename_i ke m' k' h1 h2 h3
        subst hc
        have hu : ∃ kt et, P.underlying t = some (.map kt et) := by
          unfold keyTy at h1
          split at h1
          · exact ⟨_, _, by assumption⟩
          · cases h1
        obtain ⟨kt, et, hu⟩ := hu
        refine lift _ ?_ (delete_sound (u := u) hr hu h1 (ho m _ h2) (ho k _ h3) ty hv)
        simp [invoke, builtin]
      · ((repeat' split at hc) <;> first | (cases hc; done) | (simp at hc; done) | (simp at hc; subst hc; first | (simp [evalStrong] at hv; done) | (simp [AOp.isCall] at hnc; done)) | (obtain ⟨_, _, rfl⟩ := Option.map_eq_some_iff.1 hc; simp [evalStrong] at hv; done))
      · ((repeat' split at hc) <;> first | (cases hc; done) | (simp at hc; done) | (simp at hc; subst hc; first | (simp [evalStrong] at hv; done) | (simp [AOp.isCall] at hnc; done)) | (obtain ⟨_, _, rfl⟩ := Option.map_eq_some_iff.1 hc; simp [evalStrong] at hv; done))
      · rename_i t x
        split at hc
        case h_2 => cases hc
        rename_i e h1
        split at hc
        case h_2 => cases hc
        rename_i z s x' h2 h3 h4
        split at hc <;> simp at hc
        subst hc
        refine lift _ ?_ (clear_sound (ty := ty) hr h1 h2 (ho x _ h4) hv)
        simp [invoke, builtin]
      · cases hc
  all_goals ((repeat' split at hc) <;> first | (cases hc; done) | (simp at hc; done) | (simp at hc; subst hc; first | (simp [evalStrong] at hv; done) | (simp [AOp.isCall] at hnc; done)) | (obtain ⟨_, _, rfl⟩ := Option.map_eq_some_iff.1 hc; simp [evalStrong] at hv; done))
end
end Go.Proofs.YtjihmonajekomaaGreatDoor.Ax
